/- The reader's Text and Even, and a new reader: what each comes to. -/
import Derived.Test.YtgeaklemlnmnpaaBw0
import Derived.OwnWalk
import Derived.Laws.OwnMore
import Derived.Laws.BytesString
set_option linter.unusedVariables false
namespace Go.Proofs.Ytgeaklemlnmnpaa.BW
open Go.RowKit
theorem info5 : (Try.prog.info? 5).map (fun i => (i.zero, i.size, i.bytes)) = some (some (.int .u8 0), 1, 1) := by kernel_rfl
/-- What a text of k bytes holds. -/
def txt (D : Nat → Int) (a k : Nat) : List Value := (List.range k).map fun j => .int .u8 (num D (a + 8 * j) 8 % 256)
theorem txt_succ (D : Nat → Int) (a k : Nat) : txt D a (k + 1) = txt D a k ++ [.int .u8 (num D (a + 8 * k) 8 % 256)] := by simp [txt, List.range_succ]
theorem txt_length (D : Nat → Int) (a k : Nat) : (txt D a k).length = k := by simp [txt]
/-- below B nothing has turned -/
theorem Rd.below {w w' : World} {b f B : Nat} {D : Nat → Int} {s : St} {fo : Option Addr} {cap : Nat} (h : Rd w b f D s fo cap) (k : Below B w w') (hb : b < B) (hf : 0 < s.m → f < B) : Rd w' b f D s fo cap :=
  ⟨(k.cell hb).trans h.c0, (k.cell hb).trans h.c1, (k.cell hb).trans h.c2, (k.frozen hb).trans h.f0, (k.frozen hb).trans h.f1, (k.frozen hb).trans h.f2, h.hf,
    fun j hj => (k.cell (hf (by omega))).trans (h.hd j hj)⟩
theorem own_fr {w w' : World} {b B : Nat} {e : TypeId} {size n : Nat} {v : Value} {xs : List Value} (h : w.ownsRow B e size v n xs) (k : Fr b w w') (hb : b < B) : w'.ownsRow B e size v n xs :=
  h.kept (row := some b) ⟨k.os, k.tape, k.output, k.size, fun i hi hne => k.block i hi (fun e => hne (by rw [e]))⟩ (by
    rcases hv : v.ownBlock with _ | g
    · exact .inl rfl
    · refine .inr (fun e => ?_)
      injection e with e
      have := (h.lt g hv).1
      omega)
theorem own_row {w : World} {B : Nat} {e : TypeId} {size n : Nat} {v : Value} {xs : List Value} (h : w.ownsRow B e size v n xs) : ∀ k, v.ownBlock = some k → B ≤ k := fun k hk => (h.lt k hk).1
theorem text_none {b : Nat} {w : World} (n : Int) (hn : n ≤ 0) :
    Calls Try.prog 20 #[.pointer (some ⟨b, 0, none⟩), .int .i64 n] w fun e w' => e = .returned (.slice none 0 0) ∧ w = w' := by
  go_enter Try.func20, Try.ntmps20
  go_wp2
  all_goals
    go_ret
    exact ⟨rfl, rfl⟩
theorem text_err {b f : Nat} {D : Nat → Int} {s : St} {fo : Option Addr} {cap : Nat} {w : World} (h : Rd w b f D s fo cap) (hm : s.m ≤ 1000) (hE : s.E ≠ 0) (n : Int) (hn : 0 < n) :
    Calls Try.prog 20 #[.pointer (some ⟨b, 0, none⟩), .int .i64 n] w fun e w' => e = .returned (.slice none 0 0) ∧ w = w' := by
  go_enter Try.func20, Try.ntmps20
  go_wp2_with (first | (go_at_call 37; refine (bytes_any h).mono ?_; rintro e w' ⟨rfl, rfl⟩) | (go_at_call 36; refine (ready_err h hE _).mono ?_; rintro e w' ⟨rfl, rfl⟩))
  all_goals
    go_ret
    exact ⟨rfl, rfl⟩
theorem text_short {b f : Nat} {D : Nat → Int} {s : St} {fo : Option Addr} {cap : Nat} {w : World} (h : Rd w b f D s fo cap) (ha : s.a ≤ 8 * s.m) (hm : s.m ≤ 1000) (hE : s.E = 0) (n : Int) (hn0 : 0 < n) (hn : 8 * s.m - s.a < 8 * n) :
    Calls Try.prog 20 #[.pointer (some ⟨b, 0, none⟩), .int .i64 n] w fun e w' => e = .returned (.slice none 0 0) ∧ Rd w' b f D ⟨0, 0, 2⟩ none 0 ∧ Fr b w w' := by
  go_enter Try.func20, Try.ntmps20
  go_wp2_with (first | (go_at_call 37; refine (bytes_any h).mono ?_; rintro e w' ⟨rfl, rfl⟩) | (go_at_call 36; refine (ready_short h ha hm hE _ (by omega)).mono ?_; rintro e w' ⟨rfl, hr, hfr⟩))
  all_goals
    go_ret
    exact ⟨rfl, hr, hfr⟩
set_option maxRecDepth 100000 in
theorem text_ok {b f : Nat} {D : Nat → Int} {s : St} {fo : Option Addr} {cap : Nat} {w : World} (h : Rd w b f D s fo cap) (hm : s.m ≤ 1000) (hE : s.E = 0) (hfb : f ≠ b) (hD : ∀ j, j < s.m → 0 ≤ D j ∧ D j ≤ 255) (n : Nat) (hn0 : 0 < n) (hn : s.a + 8 * n ≤ 8 * s.m) :
    Calls Try.prog 20 #[.pointer (some ⟨b, 0, none⟩), .int .i64 n] w fun e w' => ∃ v, e = .returned v ∧ w'.ownsRow w.heap.size 5 1 v n (txt D s.a n) ∧ Rd w' b f D ⟨s.m, s.a + 8 * n, s.E⟩ fo cap ∧ Fr b w w' := by
  obtain ⟨i0, hi, hz0, hz1, hz2⟩ := info_parts info5
  have HD := Lib.hid hD
  have hlb := h.lt
  have hlf := h.flt (by omega)
  clear hD
  go_enter Try.func20, Try.ntmps20
  go_wp2_with (first | (go_at_call 37; refine (bytes_any h).mono ?_; rintro e w' ⟨rfl, rfl⟩) | (go_at_call 36; refine (ready_yes h (by omega) hm hE _ (by omega)).mono ?_; rintro e w' ⟨rfl, q, rfl⟩))
  go_loopw [5, 21] (fun v i wr => ∃ k : Nat, k ≤ n ∧ i = .int .i64 k ∧ wr.ownsRow w.heap.size 5 1 v k (txt D s.a k) ∧ Rd wr b f D ⟨s.m, s.a + 8 * k, s.E⟩ fo cap ∧ Fr b w wr) (fun _ i _ => n - (intOf i).toNat)
  case atStart => exact ⟨0, Nat.zero_le _, rfl, World.ownsRow_nil _ _ _ _, h.drewN _, (Fr.refl _ _).drewN _⟩
  case round =>
    obtain ⟨k, hk, rfl, hown, hr, hfr⟩ := hrel
    by_cases hlt : k < n
    · go_wp2_with fail
      refine (take_ok hr hm hE hfb HD.out 8 (by omega) (by show s.a + 8 * k + 8 ≤ 8 * s.m; omega)).mono ?_
      rintro e w1 ⟨rfl, hr1, hfr1⟩
      have hown1 := own_fr hown hfr1 hlb
      have hs1 := hfr.size
      have hs2 := hfr1.size
      go_wp2_with (at_builtin; refine wpList_append_own _ rfl _ _ 35 rfl w.heap.size 5 i0 (.int .u8 0) 1 1 Try.underlying35 hi hz0 hz1 hz2 rfl (by decide) _ _ _ rfl (hown1.alloc _) ⟨w1.heap.size, 0, none⟩ 1 1 [.int .u8 (num D (s.a + 8 * k) 8 % 256)] rfl rfl ?c1 ?c2 ?c3 ?c4 ?c5 ?_)
      case c1 =>
        intro j u hj
        match j, hj with
        | 0, hj => simp at hj; subst hj; simp [Addr.add]
      case c2 => intro u hu; simp at hu; subst hu; rfl
      case c3 => unfold maxLen; omega
      case c4 => omega
      case c5 => simp; omega
      · intro v' w2 hown2 hgrow _
        have hbel : Below w.heap.size w1 w2 := Below.grown ((Below.refl _ _).alloc (by omega) _) hgrow (by simp; omega) (own_row hown1)
        have hr2 := hr1.below hbel hlb (fun _ => hlf)
        have hfr2 : Fr b w w2 := ((hfr.trans hfr1).alloc _).grown hgrow (fun x hx => .inr (own_row hown1 x hx))
        clear hgrow hbel hr1 hown1 hown hr hfr hfr1
        go_wp2
        go_roundw
        case rel => exact ⟨k + 1, by omega, by go_num, by rw [txt_succ]; exact hown2, hr2, hfr2⟩
        case measure => simp [intOf]; omega
    · go_wp2_with fail
      have hkn : k = n := by omega
      subst hkn
      go_ret
      exact ⟨_, rfl, hown, hr, hfr⟩
/-- Up to a whole byte; what fills it must be 0. -/
def evenF (D : Nat → Int) : Nat → St → St
  | 0, s => s
  | k + 1, s => if s.a % 8 = 0 then s else if bitOf D s.a = 0 then evenF D k ⟨s.m, s.a + 1, s.E⟩ else ⟨0, 0, 3⟩
def evenN (s : St) : Nat := (8 - s.a % 8) % 8
def even (D : Nat → Int) (s : St) : St := evenF D (evenN s) s
theorem even_done (D : Nat → Int) (s : St) (h : s.a % 8 = 0) : even D s = s := by
  have : evenN s = 0 := by unfold evenN; omega
  unfold even
  rw [this]
  rfl
theorem even_bad (D : Nat → Int) (s : St) (h : s.a % 8 ≠ 0) (hb : bitOf D s.a ≠ 0) : even D s = ⟨0, 0, 3⟩ := by
  have : evenN s = (evenN s - 1) + 1 := by unfold evenN; omega
  unfold even
  rw [this, evenF, if_neg h, if_neg hb]
theorem even_next (D : Nat → Int) (s : St) (h : s.a % 8 ≠ 0) (hb : bitOf D s.a = 0) : even D s = even D ⟨s.m, s.a + 1, s.E⟩ := by
  have h1 : evenN s = evenN ⟨s.m, s.a + 1, s.E⟩ + 1 := by unfold evenN; simp only; omega
  unfold even
  rw [h1, evenF, if_neg h, if_pos hb]
def evenM (b : Nat) (w : World) : Nat := match w.cell? ⟨b, 1, none⟩ with | some (.int _ q) => (8 - q.toNat % 8) % 8 | _ => 0
theorem evenM_rd {w : World} {b f : Nat} {D : Nat → Int} {s : St} {fo : Option Addr} {cap : Nat} (h : Rd w b f D s fo cap) : evenM b w = evenN s := by
  unfold evenM
  rw [h.c1]
  simp [evenN]
theorem evenN_succ (s : St) (h : s.a % 8 ≠ 0) : evenN ⟨s.m, s.a + 1, s.E⟩ < evenN s := by unfold evenN; simp only; omega
theorem evenN_zero (s : St) (h : s.a % 8 ≠ 0) (E : Int) : evenN ⟨0, 0, E⟩ < evenN s := by unfold evenN; simp only; omega
set_option maxRecDepth 100000 in
theorem even_any {b f : Nat} {D : Nat → Int} {s : St} {fo : Option Addr} {cap : Nat} {w : World} (h : Rd w b f D s fo cap) (ha : s.a ≤ 8 * s.m) (hm : s.m ≤ 1000) (hfb : 0 < s.m → f ≠ b) (hD : ∀ j, j < s.m → 0 ≤ D j ∧ D j ≤ 255) :
    Calls Try.prog 22 #[.pointer (some ⟨b, 0, none⟩)] w fun e w' => e = .returned (.tuple #[]) ∧ ∃ fo' cap', Rd w' b f D (even D s) fo' cap' ∧ Fr b w w' := by
  have HD := Lib.hid hD
  clear hD
  go_enter Try.func22, Try.ntmps22
  go_wp2
  go_loopw [4] (fun _ wr => ∃ s' fo' cap', Rd wr b f D s' fo' cap' ∧ s'.a ≤ 8 * s'.m ∧ s'.m ≤ s.m ∧ even D s' = even D s ∧ Fr b w wr) (fun _ wr => evenM b wr)
  case atStart => exact ⟨s, fo, cap, h, ha, Nat.le_refl _, rfl, Fr.refl _ _⟩
  case round =>
    obtain ⟨s', fo', cap', hr, ha', hms, hev, hfr⟩ := hrel
    obtain ⟨h0, h1, h2, f0, f1, f2, hf, hd⟩ := id hr
    clear hf hd h0 h2 f0 f1 f2
    by_cases hz : s'.a % 8 = 0
    · go_wp2_with fail
      refine end_none (.inl rfl) rfl rfl ⟨rfl, fo', cap', ?_, hfr⟩
      rw [← hev, even_done _ _ hz]
      exact hr
    · have hlt : s'.a < 8 * s'.m := by omega
      have hB := HD.out (s'.a / 8) (by omega)
      by_cases hb : bitOf D s'.a = 0
      · go_wp2_with fail
        refine (bit_any hr hlt (by omega) (hfb (by omega)) hB).mono ?_
        rintro e w1 ⟨rfl, hr1, hfr1⟩
        go_wp2_with fail
        go_roundw
        case rel => exact ⟨_, _, _, hr1, by show s'.a + 1 ≤ 8 * s'.m; omega, hms, by rw [← hev]; exact (even_next D s' hz hb).symm, hfr.trans hfr1⟩
        case measure =>
          rw [evenM_rd hr1, evenM_rd hr]
          exact evenN_succ s' hz
      · have hb' : (bitOf D s'.a != 0) = true := by simpa using hb
        go_wp2_with fail
        refine (bit_any hr hlt (by omega) (hfb (by omega)) hB).mono ?_
        rintro e w1 ⟨rfl, hr1, hfr1⟩
        go_wp2_with fail
        refine (fails_any hr1 3).mono ?_
        rintro e w2 ⟨rfl, hr2, hfr2⟩
        go_wp2_with fail
        go_roundw
        case rel => exact ⟨_, _, _, hr2, Nat.le_refl _, Nat.zero_le _, by rw [← hev, even_bad D s' hz hb]; exact even_done _ _ rfl, (hfr.trans hfr1).trans hfr2⟩
        case measure =>
          rw [evenM_rd hr2, evenM_rd hr]
          exact evenN_zero s' hz _
end Go.Proofs.Ytgeaklemlnmnpaa.BW
