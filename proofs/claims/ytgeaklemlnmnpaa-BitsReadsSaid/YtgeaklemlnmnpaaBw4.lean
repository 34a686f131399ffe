/- The reference's row of bits: TextOf, Over: what each comes to. -/
import Derived.Test.YtgeaklemlnmnpaaBw3
set_option linter.unusedVariables false
namespace Go.Proofs.Ytgeaklemlnmnpaa.BW
open Go.RowKit
section
variable {c f : Nat} {D : Nat → Int} {s : St} {lo : Option Addr} {cap : Nat} {w : World}
theorem num_one (D : Nat → Int) (a : Nat) : num D a 1 = bitOf D a := by
  have h := bitOf_bd D a
  simp only [num, Nat.add_zero]
  generalize bitOf D a = x at *
  have : x = 0 ∨ x = 1 := by omega
  rcases this with rfl | rfl <;> decide
theorem rtext_none (n : Int) (hn : n ≤ 0) :
    Calls Try.prog 21 #[.pointer (some ⟨c, 0, none⟩), .int .i64 n] w fun e w' => e = .returned (.slice none 0 0) ∧ w = w' := by
  go_enter Try.func21, Try.ntmps21
  go_wp2
  all_goals
    go_ret
    exact ⟨rfl, rfl⟩
theorem rtext_err (h : Rw w c f D s lo cap) (hE : s.E ≠ 0) (n : Int) (hn : 0 < n) :
    Calls Try.prog 21 #[.pointer (some ⟨c, 0, none⟩), .int .i64 n] w fun e w' => e = .returned (.slice none 0 0) ∧ w = w' := by
  obtain ⟨h0, h1, f0, f1, hf, hc, hd⟩ := id h
  clear hf hd hc h
  have hE' : (s.E != 0) = true := by simpa using hE
  have hn' : decide (n ≤ 0) = false := by simpa using hn
  go_enter Try.func21, Try.ntmps21
  go_wp2
  all_goals
    go_ret
    exact ⟨rfl, rfl⟩
theorem rtext_short (h : Rw w c f D s lo cap) (ha : s.a ≤ 8 * s.m) (hm : s.m ≤ 1000) (hE : s.E = 0) (n : Int) (hn0 : 0 < n) (hn : 8 * s.m - s.a < 8 * n) :
    Calls Try.prog 21 #[.pointer (some ⟨c, 0, none⟩), .int .i64 n] w fun e w' => e = .returned (.slice none 0 0) ∧ Rw w' c f D ⟨0, 0, 2⟩ none 0 ∧ Fr c w w' := by
  obtain ⟨h0, h1, f0, f1, hf, hc, hd⟩ := id h
  clear hf hd hc
  rw [hE] at h1
  have hn' : decide (n ≤ 0) = false := by simpa using hn0
  have hl : ((8 * s.m - s.a : Nat) : Int) / 8 < n := by omega
  go_enter Try.func21, Try.ntmps21
  go_wp2_with (go_at_call 38; refine (rfails_any h 2).mono ?_; rintro e w' ⟨rfl, hr, hfr⟩)
  all_goals
    go_ret
    exact ⟨rfl, hr, hfr⟩
/-- What a text that can be read comes to. -/
def TextP (w : World) (c f : Nat) (D : Nat → Int) (s : St) (n : Nat) (e : Ending) (w' : World) : Prop := ∃ v, e = .returned v ∧ w'.ownsRow w.heap.size 5 1 v n (txt D s.a n) ∧ (∃ lo' cap', Rw w' c f D ⟨s.m, s.a + 8 * n, s.E⟩ lo' cap') ∧ Fr c w w'
set_option maxRecDepth 100000 in
theorem rtext_ok (h : Rw w c f D s lo cap) (hm : s.m ≤ 1000) (hE : s.E = 0) (hfc : f ≠ c) (n : Nat) (hn0 : 0 < n) (hn : s.a + 8 * n ≤ 8 * s.m) :
    Calls Try.prog 21 #[.pointer (some ⟨c, 0, none⟩), .int .i64 n] w fun e w' => TextP w c f D s n e w' := by
  obtain ⟨i0, hi, hz0, hz1, hz2⟩ := info_parts info5
  obtain ⟨h0, h1, f0, f1, hf, hc, hd⟩ := id h
  clear hf hd hc
  rw [hE] at h1
  have hlb := h.lt
  have hlf := h.flt (by omega)
  have hn' : decide ((n : Int) ≤ 0) = false := by simp; omega
  have hl : (n : Int) ≤ ((8 * s.m - s.a : Nat) : Int) / 8 := by omega
  go_enter Try.func21, Try.ntmps21
  go_wp2_with fail
  go_loopw [5, 26] (fun v i wr => ∃ k : Nat, k ≤ n ∧ i = .int .i64 k ∧ wr.ownsRow w.heap.size 5 1 v k (txt D s.a k) ∧ (∃ lo' cap', Rw wr c f D ⟨s.m, s.a + 8 * k, s.E⟩ lo' cap') ∧ Fr c w wr) (fun _ i _ => n - (intOf i).toNat)
  case atStart => exact ⟨0, Nat.zero_le _, rfl, World.ownsRow_nil _ _ _ _, ⟨lo, cap, h⟩, Fr.refl _ _⟩
  case round =>
    obtain ⟨k, hk, rfl, hown, ⟨lo1, cap1, hr⟩, hfr⟩ := hrel
    clear h0 h1 f0 f1
    by_cases hlt : k < n
    · go_wp2_with fail
      refine (rtake_ok hr (by show s.a + 8 * k ≤ 8 * s.m; omega) hm hE (fun _ => hfc) 8 (by omega) (by show s.a + 8 * k + 8 ≤ 8 * s.m; omega)).mono ?_
      rintro e w1 ⟨rfl, lo2, cap2, hr1, hfr1⟩
      have hown1 := own_fr hown hfr1 hlb
      have hs1 := hfr.size
      have hs2 := hfr1.size
      go_wp2_with (at_builtin; refine wpList_append_own _ rfl _ _ 35 rfl w.heap.size 5 i0 (.int .u8 0) 1 1 Try.underlying35 hi hz0 hz1 hz2 rfl (by decide) _ _ _ rfl (hown1.alloc _) ⟨w1.heap.size, 0, none⟩ 1 1 [.int .u8 (num D (s.a + 8 * k) 8 % 256)] rfl rfl ?c1 ?c2 ?c3 ?c4 ?c5 ?_)
      case c1 =>
        intro j u hj
        match j, hj with
        | 0, hj => simp at hj; subst hj; simp [Addr.add]
      case c2 => intro u hu; simp at hu; subst hu; rfl
      case c3 => unfold maxLen; omega
      case c4 => omega
      case c5 => simp; omega
      · intro v' w2 hown2 hgrow _
        have hbel : Below w.heap.size w1 w2 := Below.grown ((Below.refl _ _).alloc (by omega) _) hgrow (by simp; omega) (own_row hown1)
        have hr2 := hr1.below hbel hlb (fun _ => hlf)
        have hfr2 : Fr c w w2 := ((hfr.trans hfr1).alloc _).grown hgrow (fun x hx => .inr (own_row hown1 x hx))
        clear hgrow hbel hr1 hown1 hown hr hfr hfr1
        go_wp2
        go_roundw
        case rel => exact ⟨k + 1, by omega, by go_num, by rw [txt_succ]; exact hown2, ⟨_, _, hr2⟩, hfr2⟩
        case measure => simp [intOf]; omega
    · go_wp2_with fail
      have hkn : k = n := by omega
      subst hkn
      go_ret
      exact ⟨_, rfl, hown, ⟨_, _, hr⟩, hfr⟩
def overM (c : Nat) (w : World) : Nat := match w.cell? ⟨c, 0, none⟩ with | some (.slice _ n _) => n % 8 | _ => 0
theorem overM_rw (h : Rw w c f D s lo cap) (ha : s.a ≤ 8 * s.m) : overM c w = evenN s := by
  unfold overM
  rw [h.c0]
  simp only [evenN]
  omega
/-- What a step to a whole byte comes to. -/
def OverP (w : World) (c f : Nat) (D : Nat → Int) (s : St) (e : Ending) (w' : World) : Prop := e = .returned (.tuple #[]) ∧ ∃ lo' cap', Rw w' c f D (even D s) lo' cap' ∧ Fr c w w'
set_option maxRecDepth 100000 in
theorem over_any (h : Rw w c f D s lo cap) (ha : s.a ≤ 8 * s.m) (hm : s.m ≤ 1000) (hE : s.E ≠ 0 → s.m = 0) (hfc : 0 < s.m → f ≠ c) :
    Calls Try.prog 23 #[.pointer (some ⟨c, 0, none⟩)] w fun e w' => OverP w c f D s e w' := by
  go_enter Try.func23, Try.ntmps23
  go_wp2
  go_loopw [2] (fun _ wr => ∃ s' lo' cap', Rw wr c f D s' lo' cap' ∧ s'.a ≤ 8 * s'.m ∧ s'.m ≤ s.m ∧ (s'.E ≠ 0 → s'.m = 0) ∧ even D s' = even D s ∧ Fr c w wr) (fun _ wr => overM c wr)
  case atStart => exact ⟨s, lo, cap, h, ha, Nat.le_refl _, hE, rfl, Fr.refl _ _⟩
  case round =>
    obtain ⟨s', lo', cap', hr, ha', hms, hE', hev, hfr⟩ := hrel
    obtain ⟨h0, h1, f0, f1, hf, hc, hd⟩ := id hr
    clear hf hd f0 f1 h1
    by_cases hz : s'.a % 8 = 0
    · have hz' : (8 * s'.m - s'.a) % 8 = 0 := by omega
      go_wp2_with fail
      refine end_none (.inl rfl) rfl rfl ⟨rfl, lo', cap', ?_, hfr⟩
      rw [← hev, even_done _ _ hz]
      exact hr
    · have hlt : s'.a < 8 * s'.m := by omega
      have hE0 : s'.E = 0 := by
        by_cases hh : s'.E = 0
        · exact hh
        · have := hE' hh; omega
      have hz' : ((8 * s'.m - s'.a : Nat) : Int) % 8 ≠ 0 := by omega
      by_cases hb : bitOf D s'.a = 0
      · go_wp2_with fail
        refine (rtake_ok hr ha' (by omega) hE0 (fun _ => hfc (by omega)) 1 (by omega) (by omega)).mono ?_
        rintro e w1 ⟨rfl, lo1, cap1, hr1, hfr1⟩
        rw [num_one]
        have hb' : (bitOf D s'.a != 0) = false := by simpa using hb
        go_wp2_with fail
        go_roundw
        case rel => exact ⟨_, _, _, hr1, by show s'.a + 1 ≤ 8 * s'.m; omega, hms, hE', by rw [← hev]; exact (even_next D s' hz hb).symm, hfr.trans hfr1⟩
        case measure =>
          rw [overM_rw hr1 (by show s'.a + 1 ≤ 8 * s'.m; omega), overM_rw hr ha']
          exact evenN_succ s' hz
      · have hb' : (bitOf D s'.a != 0) = true := by simpa using hb
        go_wp2_with fail
        refine (rtake_ok hr ha' (by omega) hE0 (fun _ => hfc (by omega)) 1 (by omega) (by omega)).mono ?_
        rintro e w1 ⟨rfl, lo1, cap1, hr1, hfr1⟩
        rw [num_one]
        go_wp2_with fail
        refine (rfails_any hr1 3).mono ?_
        rintro e w2 ⟨rfl, hr2, hfr2⟩
        go_wp2_with fail
        refine end_none (.inr rfl) rfl rfl ⟨rfl, none, 0, ?_, (hfr.trans hfr1).trans hfr2⟩
        rw [← hev, even_bad _ _ hz hb]
        exact hr2
end
end Go.Proofs.Ytgeaklemlnmnpaa.BW
