/- A new reader; the reference's row of bits: what its functions come to while it is filled. -/
import Derived.Test.YtgeaklemlnmnpaaBw1
import Derived.Laws.AppendOwnNone
set_option linter.unusedVariables false
namespace Go.Proofs.Ytgeaklemlnmnpaa.BW
open Go.RowKit
theorem plus_plain (b o k : Nat) : (⟨b, o, none⟩ : Addr).add k = ⟨b, o + k, none⟩ := by
  unfold Addr.add
  by_cases h : k = 0
  · subst h; simp
  · simp [h]
theorem plus_block (a : Addr) (k : Nat) : (a.add k).block = a.block := by
  unfold Addr.add
  by_cases h : k = 0
  · subst h; simp
  · simp [h]
/-- Bytes that came in: a slice of len bytes D. -/
structure Bs (w : World) (ao : Option Addr) (len : Nat) (D : Nat → Int) : Prop where
  hd : ∀ j, j < len → ∃ ad, ao = some ad ∧ ad.block < w.heap.size ∧ ad.spot = none ∧ w.cell? (ad.add j) = some (.int .u8 (D j)) ∧ 0 ≤ D j ∧ D j ≤ 255
def bytesL (D : Nat → Int) (k : Nat) : List Value := (List.range k).map fun j => .int .u8 (D j)
theorem bytesL_length (D : Nat → Int) (k : Nat) : (bytesL D k).length = k := by simp [bytesL]
theorem bytesL_get (D : Nat → Int) (k j : Nat) (h : j < k) : (bytesL D k)[j]? = some (.int .u8 (D j)) := by simp [bytesL, h]
theorem own_slice {w : World} {B n : Nat} {e : TypeId} {v : Value} {xs : List Value} (h : w.ownsRow B e 1 v n xs) : ∃ f fo cap, v = .slice fo n cap ∧ (0 < n → fo = some ⟨f, 0, none⟩ ∧ B ≤ f ∧ f < w.heap.size) ∧ n ≤ cap ∧ ∀ j, j < n → w.cell? ⟨f, j, none⟩ = xs[j]? := by
  rcases h.2 with ⟨rfl, rfl⟩ | ⟨g, cap, cur, rfl, hb, hg, hnc, _⟩
  · exact ⟨0, none, 0, rfl, fun h => absurd h (Nat.lt_irrefl 0), Nat.le_refl _, fun j hj => absurd hj (Nat.not_lt_zero j)⟩
  · exact ⟨g, some ⟨g, 0, none⟩, cap, rfl, fun _ => ⟨rfl, hb, (Array.getElem?_eq_some_iff.1 hg).1⟩, hnc, fun j hj => h.cellAt j (by omega)⟩
theorem rd_new {w1 : World} {b f len : Nat} {fo : Option Addr} {cap : Nat} {D : Nat → Int} (hb : b = w1.heap.size) (hf : 0 < len → fo = some ⟨f, 0, none⟩) (hfl : 0 < len → f < w1.heap.size) (hd : ∀ j, j < len → w1.cell? ⟨f, j, none⟩ = some (.int .u8 (D j))) :
    Rd (w1.alloc (.cells #[.slice fo len cap, .int .i64 0, .int .i64 0] 63)) b f D ⟨len, 0, 0⟩ fo cap := by
  subst hb
  exact ⟨by simp, by simp, by simp, by simp, by simp, by simp, hf, fun j hj => (World.cell?_alloc_lt _ _ _ (hfl (by exact Nat.lt_of_le_of_lt (Nat.zero_le j) hj))).trans (hd j hj)⟩
/-- What a new reader comes to. -/
def NewR (w : World) (D : Nat → Int) (len : Nat) (e : Ending) (w' : World) : Prop := ∃ b f fo cap, e = .returned (.pointer (some ⟨b, 0, none⟩)) ∧ Rd w' b f D ⟨len, 0, 0⟩ fo cap ∧ Below w.heap.size w w' ∧ w.heap.size ≤ b ∧ (0 < len → w.heap.size ≤ f ∧ f ≠ b)
theorem newReader_any {ao : Option Addr} {len cap0 : Nat} {D : Nat → Int} {w : World} (h : Bs w ao len D) (hlen : len ≤ 1000) (hn : ao = none → len = 0 ∧ cap0 = 0) :
    Calls Try.prog 18 #[.slice ao len cap0] w fun e w' => NewR w D len e w' := by
  obtain ⟨i0, hi, hz0, hz1, hz2⟩ := info_parts info5
  cases ao with
  | none =>
    obtain ⟨rfl, rfl⟩ := hn rfl
    go_enter Try.func18, Try.ntmps18
    go_wp2_with (at_builtin; refine wpList_append_own_none rfl _ _ 35 rfl w.heap.size 5 i0 1 Try.underlying35 hi _ _ _ rfl (World.ownsRow_nil _ _ _ _) rfl ?_)
    go_ret
    unfold NewR
    exact ⟨w.heap.size, 0, none, 0, rfl, rd_new rfl (fun h => absurd h (Nat.lt_irrefl 0)) (fun h => absurd h (Nat.lt_irrefl 0)) (fun j hj => absurd hj (Nat.not_lt_zero j)), (Below.refl _ _).alloc (Nat.le_refl _) _, Nat.le_refl _, fun h => absurd h (Nat.lt_irrefl 0)⟩
  | some ad =>
    go_enter Try.func18, Try.ntmps18
    go_wp2_with (at_builtin; refine wpList_append_own _ rfl _ _ 35 rfl w.heap.size 5 i0 (.int .u8 0) 1 1 Try.underlying35 hi hz0 hz1 hz2 rfl (by decide) _ _ _ rfl (World.ownsRow_nil _ _ _ _) ad len cap0 (bytesL D len) rfl (by simp [bytesL]) ?c1 ?c2 ?c3 ?c4 ?c5 ?_)
    case c1 =>
      intro j u hj
      have hjl : j < len := by
        have := (List.getElem?_eq_some_iff.1 hj).1
        rwa [bytesL_length] at this
      rw [bytesL_get _ _ _ hjl] at hj
      injection hj with hj
      obtain ⟨ad', e1, _, _, e2, _⟩ := h.hd j hjl
      injection e1 with e1
      subst e1
      rw [e2, hj]
    case c2 =>
      intro u hu
      simp only [bytesL, List.mem_map] at hu
      obtain ⟨j, _, rfl⟩ := hu
      rfl
    case c3 => unfold maxLen; omega
    case c4 => omega
    case c5 => exact Nat.le_refl _
    · intro v' w1 hown hgrow _
      obtain ⟨f, fo, cap, rfl, hf, -, hc⟩ := own_slice hown
      have hbel : Below w.heap.size w w1 := (Below.refl _ _).grown hgrow (Nat.le_refl _) (fun k hk => by cases hk)
      have hs := hbel.size
      clear hgrow hown
      go_wp2
      go_ret
      unfold NewR
      refine ⟨w1.heap.size, f, fo, cap, rfl, ?_, hbel.alloc hs _, hs, fun h0 => ⟨(hf h0).2.1, by have := (hf h0).2.2; omega⟩⟩
      exact rd_new rfl (fun h0 => (hf h0).1) (fun h0 => (hf h0).2.2) (fun j hj => by rw [hc j hj, bytesL_get _ _ _ hj])
/-- The reference's row while it is filled: at block c, its bits xs owned, from block B on. -/
structure Rb (w : World) (c B : Nat) (v : Value) (n : Nat) (xs : List Value) : Prop where
  c0 : w.cell? ⟨c, 0, none⟩ = some v
  c1 : w.cell? ⟨c, 1, none⟩ = some (.int .i64 0)
  f0 : w.frozen? ⟨c, 0, none⟩ = false
  f1 : w.frozen? ⟨c, 1, none⟩ = false
  own : w.ownsRow B 5 1 v n xs
  lt : c < B
  le : B ≤ w.heap.size
def rowBits (D : Nat → Int) (n : Nat) : List Value := (List.range n).map fun i => .int .u8 (bitOf D i)
theorem rowBits_succ (D : Nat → Int) (n : Nat) : rowBits D (n + 1) = rowBits D n ++ [.int .u8 (bitOf D n)] := by simp [rowBits, List.range_succ]
theorem bit_put (D : Nat → Int) (k j : Nat) (hj : j < 8) (hD : 0 ≤ D k ∧ D k ≤ 255) : bits BinOp.and IntKind.u64 (D k / 2 ^ (7 - j)) 1 % 256 = bitOf D (8 * k + j) := by
  obtain ⟨a, b⟩ := shr_bd (D k) (7 - j) hD.1 hD.2
  rw [and64_of _ a b]
  have e1 : (8 * k + j) / 8 = k := by omega
  have e2 : (8 * k + j) % 8 = j := by omega
  unfold bitOf
  rw [e1, e2]
  omega
theorem Rb.next {w w2 : World} {o : Obj} {c B n : Nat} {v v' : Value} {xs ys : List Value} (h : Rb w c B v n xs) (hg : (w.alloc o).grownBy w2 v.ownBlock) (hown : w2.ownsRow B 5 1 v' (n + 1) ys) :
    Rb (w2.setCell ⟨c, 0, none⟩ v') c B v' (n + 1) ys ∧ Below c w (w2.setCell ⟨c, 0, none⟩ v') := by
  have hl := h.lt
  have hle := h.le
  have hbel : Below B w w2 := ((Below.refl _ _).alloc hle _).grown hg (by simp; omega) (own_row h.own)
  have q0 := (hbel.cell (p := ⟨c, 0, none⟩) hl).trans h.c0
  refine ⟨⟨World.cell?_setCell_same _ _ _ q0, (World.cell?_setCell_other _ _ _ _ (ne_off c 0 1 (by decide))).trans ((hbel.cell (p := ⟨c, 1, none⟩) hl).trans h.c1), by simp [hbel.frozen (p := ⟨c, 0, none⟩) hl, h.f0], by simp [hbel.frozen (p := ⟨c, 1, none⟩) hl, h.f1], ?_, hl, by have := hbel.size; simp; omega⟩, (hbel.mono (B' := c) (by omega)).setCell (p := ⟨c, 0, none⟩) (Nat.le_refl _) _⟩
  exact own_fr hown ((Fr.refl c w2).set 0 v') hl
set_option maxRecDepth 100000 in
theorem put8_any {c B k : Nat} {v : Value} {D : Nat → Int} {w : World} (h : Rb w c B v (8 * k) (rowBits D (8 * k))) (hk : k ≤ 1000) (hD : 0 ≤ D k ∧ D k ≤ 255) :
    Calls Try.prog 42 #[.pointer (some ⟨c, 0, none⟩), .int .u64 (D k), .int .i64 8] w fun e w' => e = .returned (.tuple #[]) ∧ ∃ v', Rb w' c B v' (8 * (k + 1)) (rowBits D (8 * (k + 1))) ∧ Below c w w' := by
  obtain ⟨i0, hi, hz0, hz1, hz2⟩ := info_parts info5
  have hDD := Lib.hid hD
  have HB := h.lt
  clear hD
  go_enter Try.func42, Try.ntmps42
  go_wp2
  go_loopw [6] (fun i wr => ∃ j : Nat, j ≤ 8 ∧ i = .int .i64 (7 - (j : Int)) ∧ ∃ v', Rb wr c B v' (8 * k + j) (rowBits D (8 * k + j)) ∧ Below c w wr) (fun i _ => (intOf i + 1).toNat)
  case atStart => exact ⟨0, by omega, rfl, v, h, Below.refl _ _⟩
  case round =>
    obtain ⟨j, hj, rfl, v', hr, hbel⟩ := hrel
    obtain ⟨h0, h1, f0, f1, hown, hlt, hle⟩ := id hr
    by_cases hj8 : j < 8
    · go_wp2_with (at_builtin; refine wpList_append_own _ rfl _ _ 35 rfl B 5 i0 (.int .u8 0) 1 1 Try.underlying35 hi hz0 hz1 hz2 rfl (by decide) _ _ _ rfl (hown.alloc _) ⟨wr.heap.size, 0, none⟩ 1 1 [.int .u8 (bitOf D (8 * k + j))] rfl rfl ?c1 ?c2 ?c3 ?c4 ?c5 ?_)
      case c1 =>
        intro q u hq
        match q, hq with
        | 0, hq =>
          simp at hq
          subst hq
          simp [Addr.add, bit_put D k j hj8 hDD.out]
      case c2 => intro u hu; simp at hu; subst hu; rfl
      case c3 => unfold maxLen; omega
      case c4 => omega
      case c5 => simp; omega
      · intro v2 w2 hown2 hgrow _
        obtain ⟨hr2, hbel2⟩ := hr.next hgrow (by rw [← rowBits_succ] at hown2; exact hown2)
        have hbc : Below c wr w2 := (((Below.refl _ _).alloc (by omega) _).grown hgrow (by simp; omega) (fun q hq => by have := own_row hown q hq; omega))
        have q0 : w2.cell? ⟨c, 0, none⟩ = some v' := by
          have hbel3 : Below B wr w2 := ((Below.refl _ _).alloc hle _).grown hgrow (by simp; omega) (own_row hown)
          exact (hbel3.cell (p := ⟨c, 0, none⟩) hlt).trans h0
        have q1 : w2.frozen? ⟨c, 0, none⟩ = false := by
          have hbel3 : Below B wr w2 := ((Below.refl _ _).alloc hle _).grown hgrow (by simp; omega) (own_row hown)
          exact (hbel3.frozen (p := ⟨c, 0, none⟩) hlt).trans f0
        obtain ⟨f2, fo2, cap2, rfl, -, -, -⟩ := own_slice hown2
        clear hgrow hown2 hown h0 h1 f0 f1 hr
        go_wp2
        go_roundw
        case rel => exact ⟨j + 1, by omega, by go_num, _, hr2, hbel.trans hbel2⟩
        case measure => simp [intOf]; omega
    · go_wp2_with fail
      have hj' : j = 8 := by omega
      subst hj'
      exact end_none (.inl rfl) rfl rfl ⟨rfl, v', hr, hbel⟩
/-- The reference's row of bits at block c, the bits at block f; s as the reader's. -/
structure Rw (w : World) (c f : Nat) (D : Nat → Int) (s : St) (lo : Option Addr) (cap : Nat) : Prop where
  c0 : w.cell? ⟨c, 0, none⟩ = some (.slice lo (8 * s.m - s.a) cap)
  c1 : w.cell? ⟨c, 1, none⟩ = some (.int .i64 s.E)
  f0 : w.frozen? ⟨c, 0, none⟩ = false
  f1 : w.frozen? ⟨c, 1, none⟩ = false
  hf : 0 < 8 * s.m - s.a → lo = some ⟨f, s.a, none⟩
  hc : 8 * s.m - s.a ≤ cap
  hd : ∀ j, j < 8 * s.m → w.cell? ⟨f, j, none⟩ = some (.int .u8 (bitOf D j))
set_option maxRecDepth 100000 in
theorem fill_any {c B len cap0 : Nat} {ao : Option Addr} {D : Nat → Int} {w : World} (h : Rb w c B (.slice none 0 0) 0 []) (hb : Bs w ao len D) (hao : 0 < len → ∀ ad, ao = some ad → ad.block < c) (hlen : len ≤ 1000) :
    Calls Try.prog 35 #[.pointer (some ⟨c, 0, none⟩), .slice ao len cap0] w fun e w' => e = .returned (.tuple #[]) ∧ ∃ v', Rb w' c B v' (8 * len) (rowBits D (8 * len)) ∧ Below c w w' := by
  have HB := Lib.hid hb
  have HA := Lib.hid hao
  clear hb hao
  go_enter Try.func35, Try.ntmps35
  go_wp2
  go_loopw [8] (fun i wr => ∃ k : Nat, k ≤ len ∧ i = .int .i64 k ∧ ∃ v', Rb wr c B v' (8 * k) (rowBits D (8 * k)) ∧ Below c w wr) (fun i _ => len - (intOf i).toNat)
  case atStart => exact ⟨0, by omega, rfl, _, h, Below.refl _ _⟩
  case round =>
    obtain ⟨k, hk, rfl, v', hr, hbel⟩ := hrel
    by_cases hlt : k < len
    · obtain ⟨ad, rfl, had, hsp, hcell, hD⟩ := HB.out.hd k hlt
      obtain ⟨ab, aoff, asp⟩ := ad
      simp only at hsp
      subst hsp
      have hab := HA.out (by omega) _ rfl
      simp only at hab
      have hc : wr.cell? ⟨ab, aoff + k, none⟩ = some (.int .u8 (D k)) := by
        rw [hbel.cell (p := ⟨ab, aoff + k, none⟩) hab]
        rwa [plus_plain] at hcell
      clear hcell
      have hw : IntKind.u64.wrap (D k) = D k := by
        simp only [IntKind.wrap, IntKind.signed, IntKind.bits, Bool.false_and, Bool.false_eq_true, if_false]
        omega
      go_wp2_with fail
      refine (put8_any hr (by omega) hD).mono ?_
      rintro e w1 ⟨rfl, v1, hr1, hbel1⟩
      go_wp2_with fail
      go_roundw
      case rel => exact ⟨k + 1, by omega, by go_num, v1, hr1, hbel.trans hbel1⟩
      case measure => simp [intOf]; omega
    · go_wp2_with fail
      have hkl : k = len := by omega
      subst hkl
      exact end_none (.inl rfl) rfl rfl ⟨rfl, v', hr, hbel⟩
/-- What a new row of bits comes to. -/
def NewW (w : World) (D : Nat → Int) (len : Nat) (e : Ending) (w' : World) : Prop := ∃ b f fo cap, e = .returned (.pointer (some ⟨b, 0, none⟩)) ∧ Rw w' b f D ⟨len, 0, 0⟩ fo cap ∧ Below w.heap.size w w' ∧ w.heap.size ≤ b ∧ (0 < len → w.heap.size ≤ f ∧ f ≠ b)
theorem Bs.alloc {w : World} {ao : Option Addr} {len : Nat} {D : Nat → Int} (h : Bs w ao len D) (o : Obj) : Bs (w.alloc o) ao len D :=
  ⟨fun j hj => by
    obtain ⟨ad, h1, h2, h3, h4, h5⟩ := h.hd j hj
    exact ⟨ad, h1, by simp; omega, h3, by rw [World.cell?_alloc_lt _ _ _ (by rw [plus_block]; exact h2)]; exact h4, h5⟩⟩
theorem rb_new (w : World) : Rb (w.alloc (.cells #[.slice none 0 0, .int .i64 0] 50)) w.heap.size (w.heap.size + 1) (.slice none 0 0) 0 [] :=
  ⟨by simp, by simp, by simp, by simp, World.ownsRow_nil _ _ _ _, by omega, by simp⟩
theorem rowBits_length (D : Nat → Int) (n : Nat) : (rowBits D n).length = n := by simp [rowBits]
theorem rowBits_get (D : Nat → Int) (n j : Nat) (h : j < n) : (rowBits D n)[j]? = some (.int .u8 (bitOf D j)) := by simp [rowBits, h]
theorem Rb.row {w : World} {c B len : Nat} {v : Value} {D : Nat → Int} (h : Rb w c B v (8 * len) (rowBits D (8 * len))) : ∃ f lo cap, Rw w c f D ⟨len, 0, 0⟩ lo cap ∧ (0 < len → B ≤ f) := by
  obtain ⟨f, lo, cap, rfl, hf, hn, hc⟩ := own_slice h.own
  refine ⟨f, lo, cap, ⟨h.c0, h.c1, h.f0, h.f1, fun h0 => (hf h0).1, hn, fun j hj => by rw [hc j hj, rowBits_get _ _ _ hj]⟩, fun h0 => (hf (by omega)).2.1⟩
theorem rowOf_any {ao : Option Addr} {len cap0 : Nat} {D : Nat → Int} {w : World} (h : Bs w ao len D) (hlen : len ≤ 1000) :
    Calls Try.prog 19 #[.slice ao len cap0] w fun e w' => NewW w D len e w' := by
  go_enter Try.func19, Try.ntmps19
  go_wp2_with fail
  refine (fill_any (rb_new w) (h.alloc _) (fun h0 ad e => ?_) hlen).mono ?_
  · obtain ⟨ad', e1, e2, _⟩ := h.hd 0 h0
    rw [e] at e1
    injection e1 with e1
    rw [e1]
    exact e2
  · rintro e w1 ⟨rfl, v1, hr1, hbel1⟩
    obtain ⟨f, lo, cap, hrw, hf⟩ := hr1.row
    have hbel : Below w.heap.size w w1 := ((Below.refl _ _).alloc (Nat.le_refl _) _).trans hbel1
    clear hr1 hbel1
    go_wp2_with fail
    go_ret
    unfold NewW
    exact ⟨w.heap.size, f, lo, cap, rfl, hrw, hbel, Nat.le_refl _, fun h0 => ⟨by have := hf h0; omega, by have := hf h0; omega⟩⟩
end Go.Proofs.Ytgeaklemlnmnpaa.BW
