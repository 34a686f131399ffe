/- The law's awake and few. -/
import Derived.Test.YtgeaklemlnmnpaaBw5
import Derived.Laws.BytesArg
set_option linter.unusedVariables false
namespace Go.Proofs.Ytgeaklemlnmnpaa.BW
open Go.RowKit
/-- What the writer's Bytes come to. -/
def BytesP (w : World) (L : List Int) (e : Ending) (w' : World) : Prop := ∃ v, e = .returned v ∧ w'.ownsRow w.heap.size 5 1 v L.length (u8s L) ∧ Below w.heap.size w w'
theorem wbytes_any {b B : Nat} {v : Value} {n : Int} {L : List Int} {w : World} (h : Wr w b B v n L) (hL : 0 < L.length) (hL' : L.length ≤ 1000) :
    Calls Try.prog 33 #[.pointer (some ⟨b, 0, none⟩)] w fun e w' => BytesP w L e w' := by
  obtain ⟨i0, hi, hz0, hz1, hz2⟩ := info_parts info5
  obtain ⟨h0, h1, f0, f1, hown, hlt, hle⟩ := id h
  obtain ⟨g, cap, rfl, hgB, hc, hfz⟩ := own_slice1 hown hL
  have HC := Lib.hid hc
  clear hc hfz
  go_enter Try.func33, Try.ntmps33
  go_wp2_with (at_builtin; refine wpList_append_own _ rfl _ _ 35 rfl w.heap.size 5 i0 (.int .u8 0) 1 1 Try.underlying35 hi hz0 hz1 hz2 rfl (by decide) _ _ _ rfl (World.ownsRow_nil _ _ _ _) ⟨g, 0, none⟩ L.length cap (u8s L) rfl (by simp [u8s]) ?c1 ?c2 ?c3 ?c4 ?c5 ?_)
  case c1 =>
    intro j u hj
    have hjl : j < L.length := by
      have := (List.getElem?_eq_some_iff.1 hj).1
      simpa [u8s] using this
    rw [plus_plain, Nat.zero_add, HC.out j hjl]
    exact hj
  case c2 =>
    intro u hu
    simp only [u8s, List.mem_map] at hu
    obtain ⟨j, _, rfl⟩ := hu
    rfl
  case c3 => unfold maxLen; omega
  case c4 => omega
  case c5 => exact Nat.le_refl _
  · intro v' w1 hown1 hgrow _
    have hbel : Below w.heap.size w w1 := (Below.refl _ _).grown hgrow (Nat.le_refl _) (fun k hk => by cases hk)
    have hown1 : w1.ownsRow w.heap.size 5 1 v' L.length (u8s L) := by simpa using hown1
    clear hgrow
    go_wp2
    go_ret
    exact ⟨_, rfl, hown1, hbel⟩
theorem wbits_any {b B : Nat} {v : Value} {n : Int} {L : List Int} {w : World} (h : Wr w b B v n L) :
    Calls Try.prog 34 #[.pointer (some ⟨b, 0, none⟩)] w fun e w' => e = .returned (.int .i64 n) ∧ w = w' := by
  obtain ⟨h0, h1, f0, f1, hown, hlt, hle⟩ := id h
  clear hown h
  go_enter Try.func34, Try.ntmps34
  go_wp2
  go_ret
  exact ⟨rfl, rfl⟩
theorem wr_new (w : World) : Wr (w.alloc (.cells #[.slice none 0 0, .int .i64 0] 59)) w.heap.size (w.heap.size + 1) (.slice none 0 0) 0 [] :=
  ⟨by simp, by simp, by simp, by simp, World.ownsRow_nil _ _ _ _, by omega, by simp⟩
theorem Wr.below {w w' : World} {b B B' : Nat} {v : Value} {n : Int} {L : List Int} (h : Wr w b B v n L) (k : Below B' w w') (hb : b < B') (hv : ∀ g, v.ownBlock = some g → g < B') : Wr w' b B v n L :=
  ⟨(k.cell (p := ⟨b, 0, none⟩) hb).trans h.c0, (k.cell (p := ⟨b, 1, none⟩) hb).trans h.c1, (k.frozen (p := ⟨b, 0, none⟩) hb).trans h.f0, (k.frozen (p := ⟨b, 1, none⟩) hb).trans h.f1,
    by
      refine ⟨h.own.1, ?_⟩
      rcases h.own.2 with e | ⟨g, cap, cur, e, h1, h2, h3⟩
      · exact .inl e
      · subst e
        exact .inr ⟨g, cap, cur, rfl, h1, (k.block g (hv g rfl)).trans h2, h3⟩,
    h.lt, Nat.le_trans h.le k.size⟩
set_option maxRecDepth 100000 in
theorem awake_any (w : World) : Calls Try.prog 17 #[] w fun e w' => e = .returned (.bool true) ∧ Below w.heap.size w w' := by
  go_enter Try.func17, Try.ntmps17
  go_wp2_with fail
  refine (put_5_3 (wr_new w)).mono ?_
  rintro e w1 ⟨rfl, v1, hr1, hb1⟩
  go_wp2_with fail
  refine (put_1_2 hr1).mono ?_
  rintro e w2 ⟨rfl, v2, hr2, hb2⟩
  go_wp2_with fail
  refine (put_258_40 hr2).mono ?_
  rintro e w3 ⟨rfl, v3, hr3, hb3⟩
  have hB3 : Below w.heap.size w w3 := ((((Below.refl _ _).alloc (Nat.le_refl _) _).trans hb1).trans hb2).trans hb3
  clear hb1 hb2 hb3
  go_wp2_with fail
  refine (wbytes_any hr3 (by decide) (by decide)).mono ?_
  rintro e w4 ⟨v4, rfl, hown4, hb4⟩
  have hr4 : Wr w4 w.heap.size (w.heap.size + 1) v3 45 [168, 0, 0, 0, 8, 16] := hr3.below hb4 (by have := hr3.lt; have := hr3.le; omega) (fun g hg => (hr3.own.lt g hg).2)
  obtain ⟨g, cap, rfl, hgB, hc, hfz⟩ := own_slice1 hown4 (by decide)
  have hcv := run_convert_bytes_arg (P := Try.prog) w4 35 5 Try.underlying35 Try.underlying5 g 0 6 cap [168, 0, 0, 0, 8, 16] rfl (fun i hi => by
    rw [Nat.zero_add, hc i hi]
    have : i = 0 ∨ i = 1 ∨ i = 2 ∨ i = 3 ∨ i = 4 ∨ i = 5 := by omega
    rcases this with rfl | rfl | rfl | rfl | rfl | rfl <;> rfl) 9 Try.underlying9
  have hs : strOfNums [168, 0, 0, 0, 8, 16] = ⟨#[168, 0, 0, 0, 8, 16]⟩ := rfl
  rw [hs] at hcv
  have HB := Lib.hid (hB3.trans (hb4.mono hB3.size))
  clear hown4 hc hfz hb4 hB3 hr1 hr2 hr3
  go_wp2_with (go_at_call 34; refine (wbits_any hr4).mono ?_; rintro e w' ⟨rfl, rfl⟩)
  go_ret
  exact ⟨rfl, HB.out⟩
/-- The fields as they lie in memory: number, width, two flags, a slice. -/
structure Fs (w : World) (ao : Option Addr) (len : Nat) (N W : Nat → Int) (T E : Nat → Bool) : Prop where
  hd : ∀ j, j < len → ∃ b off A n c, ao = some ⟨b, off, none⟩ ∧ b < w.heap.size ∧ w.cell? ⟨b, off + j * 5, none⟩ = some (.int .u64 (N j)) ∧ w.cell? ⟨b, off + j * 5 + 1, none⟩ = some (.int .i64 (W j)) ∧
    w.cell? ⟨b, off + j * 5 + 2, none⟩ = some (.bool (T j)) ∧ w.cell? ⟨b, off + j * 5 + 3, none⟩ = some (.bool (E j)) ∧ w.cell? ⟨b, off + j * 5 + 4, none⟩ = some (.slice A n c)
/-- What few comes to: an answer, and new blocks. -/
def FewP (w : World) (e : Ending) (w' : World) : Prop := ∃ v, e = .returned (.bool v) ∧ Below w.heap.size w w'
set_option maxRecDepth 100000 in
theorem few_any {ao : Option Addr} {len cap : Nat} {N W : Nat → Int} {T E : Nat → Bool} {w : World} (h : Fs w ao len N W T E) (hlen : len ≤ 9223372036854775807) :
    Calls Try.prog 16 #[.slice ao len cap] w fun e w' => FewP w e w' := by
  have HF := Lib.hid h
  clear h
  go_enter Try.func16, Try.ntmps16
  go_wp2
  go_loopw [3, 8] (fun m i wr => ∃ k : Nat, k ≤ len ∧ i = .int .i64 k ∧ (∃ n, m = .int .i64 n) ∧ Below w.heap.size w wr) (fun _ i _ => len - (intOf i).toNat)
  case atStart => exact ⟨0, Nat.zero_le _, rfl, ⟨_, rfl⟩, Below.refl _ _⟩
  case round =>
    obtain ⟨k, hk, rfl, ⟨n, rfl⟩, hbel⟩ := hrel
    by_cases hlt : k < len
    · obtain ⟨b, off, A, m, c, rfl, hb, c0, c1, c2, c3, c4⟩ := HF.out.hd k hlt
      have d0 := (hbel.cell (p := ⟨b, off + k * 5, none⟩) hb).trans c0
      have d1 := (hbel.cell (p := ⟨b, off + k * 5 + 1, none⟩) hb).trans c1
      have d2 := (hbel.cell (p := ⟨b, off + k * 5 + 2, none⟩) hb).trans c2
      have d3 := (hbel.cell (p := ⟨b, off + k * 5 + 3, none⟩) hb).trans c3
      have d4 := (hbel.cell (p := ⟨b, off + k * 5 + 4, none⟩) hb).trans c4
      have hs := hbel.size
      clear c0 c1 c2 c3 c4
      go_wp2_with fail
      all_goals first
        | (go_ret
           exact ⟨_, rfl, hbel.alloc hs _⟩)
        | (go_roundw
           case rel => exact ⟨k + 1, by omega, by go_num, ⟨_, rfl⟩, hbel.alloc hs _⟩
           case measure => simp [intOf]; omega)
    · have hkl : k = len := by omega
      subst hkl
      go_wp2_with fail
      go_ret
      exact ⟨_, rfl, hbel⟩
end Go.Proofs.Ytgeaklemlnmnpaa.BW
