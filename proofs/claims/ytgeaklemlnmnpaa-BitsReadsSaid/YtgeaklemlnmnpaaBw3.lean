/- The reference's row of bits: Take, TextOf, Over, Ends; the reader's End: what each comes to. -/
import Derived.Test.YtgeaklemlnmnpaaBw2
set_option linter.unusedVariables false
namespace Go.Proofs.Ytgeaklemlnmnpaa.BW
open Go.RowKit
section
variable {c f : Nat} {D : Nat → Int} {s : St} {lo : Option Addr} {cap : Nat} {w : World}
theorem Rw.lt (h : Rw w c f D s lo cap) : c < w.heap.size := World.block_lt_of_cell? w _ h.c0
theorem Rw.flt (h : Rw w c f D s lo cap) (hm : 0 < s.m) : f < w.heap.size := World.block_lt_of_cell? w _ (h.hd 0 (by omega))
theorem Rw.drewN (h : Rw w c f D s lo cap) (k : Nat) : Rw (w.drewN k) c f D s lo cap := ⟨h.c0, h.c1, h.f0, h.f1, h.hf, h.hc, h.hd⟩
theorem Rw.drew (h : Rw w c f D s lo cap) : Rw w.drew c f D s lo cap := ⟨h.c0, h.c1, h.f0, h.f1, h.hf, h.hc, h.hd⟩
theorem Rw.other {w' : World} {b : Nat} (h : Rw w c f D s lo cap) (k : Fr b w w') (hb : c ≠ b) (hf : 0 < s.m → f ≠ b) : Rw w' c f D s lo cap :=
  have hl := h.lt
  ⟨(k.cell hl hb).trans h.c0, (k.cell hl hb).trans h.c1, (k.frozen hl hb).trans h.f0, (k.frozen hl hb).trans h.f1, h.hf, h.hc,
    fun j hj => (k.cell (h.flt (by omega)) (hf (by omega))).trans (h.hd j hj)⟩
theorem Rw.below {w' : World} {B : Nat} (h : Rw w c f D s lo cap) (k : Below B w w') (hb : c < B) (hf : 0 < s.m → f < B) : Rw w' c f D s lo cap :=
  ⟨(k.cell (p := ⟨c, 0, none⟩) hb).trans h.c0, (k.cell (p := ⟨c, 1, none⟩) hb).trans h.c1, (k.frozen (p := ⟨c, 0, none⟩) hb).trans h.f0, (k.frozen (p := ⟨c, 1, none⟩) hb).trans h.f1, h.hf, h.hc,
    fun j hj => (k.cell (p := ⟨f, j, none⟩) (hf (by omega))).trans (h.hd j hj)⟩
theorem rfails_any (h : Rw w c f D s lo cap) (e : Int) :
    Calls Try.prog 38 #[.pointer (some ⟨c, 0, none⟩), .int .i64 e] w fun e' w' => e' = .returned (.tuple #[]) ∧ Rw w' c f D ⟨0, 0, e⟩ none 0 ∧ Fr c w w' := by
  obtain ⟨h0, h1, f0, f1, hf, hc, hd⟩ := id h
  clear hf hd hc
  go_enter Try.func38, Try.ntmps38
  go_wp2
  refine end_none (.inl rfl) rfl rfl ⟨rfl, ⟨?_, ?_, by simp [f0], by simp [f1], fun h => absurd h (Nat.lt_irrefl 0), Nat.le_refl _, fun j hj => absurd hj (Nat.not_lt_zero j)⟩, ?_⟩
  · rw [World.cell?_setCell_other _ _ _ _ (ne_off c 1 0 (by decide))]
    exact World.cell?_setCell_same _ _ _ h0
  · exact World.cell?_setCell_same _ _ _ ((World.cell?_setCell_other _ _ _ _ (ne_off c 0 1 (by decide))).trans h1)
  · exact ((Fr.refl _ _).set _ _).set _ _
theorem rtake_bad (h : Rw w c f D s lo cap) (n : Int) (hn : n < 0 ∨ 64 < n) :
    Calls Try.prog 25 #[.pointer (some ⟨c, 0, none⟩), .int .i64 n] w fun e w' => e = .returned (.int .u64 0) ∧ w = w' := by
  rcases hn with hn | hn
  all_goals
    go_enter Try.func25, Try.ntmps25
    go_wp2
    go_ret
    exact ⟨rfl, rfl⟩
theorem rtake_err (h : Rw w c f D s lo cap) (hE : s.E ≠ 0) (n : Int) (hn : 0 ≤ n) (hn' : n ≤ 64) :
    Calls Try.prog 25 #[.pointer (some ⟨c, 0, none⟩), .int .i64 n] w fun e w' => e = .returned (.int .u64 0) ∧ w = w' := by
  obtain ⟨h0, h1, f0, f1, hf, hc, hd⟩ := id h
  clear hf hd hc
  have hE' : (s.E != 0) = true := by simpa using hE
  have hg : (decide (n < 0) || decide (64 < n)) = false := by simp; omega
  go_enter Try.func25, Try.ntmps25
  go_wp2
  all_goals
    go_ret
    exact ⟨rfl, rfl⟩
theorem rtake_short (h : Rw w c f D s lo cap) (ha : s.a ≤ 8 * s.m) (hm : s.m ≤ 1000) (hE : s.E = 0) (n : Int) (hn0 : 0 ≤ n) (hn' : n ≤ 64) (hn : 8 * s.m - s.a < n) :
    Calls Try.prog 25 #[.pointer (some ⟨c, 0, none⟩), .int .i64 n] w fun e w' => e = .returned (.int .u64 0) ∧ Rw w' c f D ⟨0, 0, 2⟩ none 0 ∧ Fr c w w' := by
  obtain ⟨h0, h1, f0, f1, hf, hc, hd⟩ := id h
  rw [hE] at h1
  clear hf hd hc
  go_enter Try.func25, Try.ntmps25
  go_wp2_with (go_at_call 38; refine (rfails_any h 2).mono ?_; rintro e w' ⟨rfl, hr, hfr⟩)
  all_goals
    go_ret
    exact ⟨rfl, hr, hfr⟩
/-- What a Take that can be answered comes to. -/
def TakeP (w : World) (c f : Nat) (D : Nat → Int) (s : St) (n : Nat) (e : Ending) (w' : World) : Prop := e = .returned (.int .u64 (num D s.a n)) ∧ ∃ lo' cap', Rw w' c f D ⟨s.m, s.a + n, s.E⟩ lo' cap' ∧ Fr c w w'
theorem Rw.took (h : Rw w c f D s lo cap) (n : Nat) (lo' : Option Addr) (cap' q : Nat) (hq : q = 8 * s.m - (s.a + n)) (h1 : 0 < q → lo' = some ⟨f, s.a + n, none⟩) (h2 : q ≤ cap') (hfc : 0 < s.m → f ≠ c) :
    Rw (w.setCell ⟨c, 0, none⟩ (.slice lo' q cap')) c f D ⟨s.m, s.a + n, s.E⟩ lo' cap' := by
  subst hq
  exact ⟨World.cell?_setCell_same _ _ _ h.c0, (World.cell?_setCell_other _ _ _ _ (ne_off c 0 1 (by decide))).trans h.c1, by simp [h.f0], by simp [h.f1], h1, h2,
    fun j hj => (World.cell?_setCell_other _ _ _ _ (ne_blk c f 0 j (fun e => hfc (by have : j < 8 * s.m := hj; omega) e.symm))).trans (h.hd j hj)⟩
theorem ediff {a b : Nat} (h : a = b) : a - b = 0 := by omega
set_option maxRecDepth 100000 in
theorem rtake_some {ad : Addr} (h : Rw w c f D s (some ad) cap) (hm : s.m ≤ 1000) (hE : s.E = 0) (hfc : f ≠ c) (n : Nat) (hn' : n ≤ 64) (hn0 : 0 < n) (hn : s.a + n ≤ 8 * s.m) :
    Calls Try.prog 25 #[.pointer (some ⟨c, 0, none⟩), .int .i64 n] w fun e w' => TakeP w c f D s n e w' := by
  obtain ⟨h0, h1, f0, f1, hf, hc, hd⟩ := id h
  obtain rfl : ad = ⟨f, s.a, none⟩ := by have := hf (by omega); injection this
  rw [hE] at h1
  have HD := Lib.hid hd
  have HK := Lib.hid h
  have hnn : (n : Int) ≤ (8 * s.m - s.a : Nat) := by omega
  have hncap : n ≤ cap := by omega
  clear hf hd h
  go_enter Try.func25, Try.ntmps25
  go_wp2_with fail
  go_loopw [5, 37] (fun v i wr => ∃ k : Nat, k ≤ n ∧ i = .int .i64 k ∧ v = .int .u64 (num D s.a k) ∧ wr = w) (fun _ i _ => n - (intOf i).toNat)
  case atStart => exact ⟨0, Nat.zero_le _, rfl, rfl, rfl⟩
  case round =>
    obtain ⟨k, hk, rfl, rfl, rfl⟩ := hrel
    by_cases hlt : k < n
    · have hcell : wr.cell? ⟨f, s.a + k, none⟩ = some (.int .u8 (bitOf D (s.a + k))) := HD.out _ (by omega)
      have hw : IntKind.u64.wrap (bitOf D (s.a + k)) = bitOf D (s.a + k) := by
        have := bitOf_bd D (s.a + k)
        simp only [IntKind.wrap, IntKind.signed, IntKind.bits, Bool.false_and, Bool.false_eq_true, if_false]
        omega
      have hbb := bitOf_bd D (s.a + k)
      go_wp2_with fail
      go_roundw
      case rel => exact ⟨k + 1, by omega, by go_num, by first | exact ⟨rfl, rfl⟩ | trivial⟩
      case measure => simp [intOf]; omega
    · have hkn : k = n := by omega
      subst hkn
      go_wp2_with fail
      · rename_i hck
        go_ret
        unfold TakeP
        exact ⟨rfl, _, _, HK.out.took k _ _ _ (by omega) (fun h0 => by omega) (by omega) (fun _ => hfc), (Fr.refl _ _).set _ _⟩
      · go_ret
        unfold TakeP
        exact ⟨rfl, _, _, HK.out.took k _ _ _ (by omega) (fun h0 => rfl) (by omega) (fun _ => hfc), (Fr.refl _ _).set _ _⟩
set_option maxRecDepth 100000 in
theorem rtake_zero (h : Rw w c f D s lo cap) (ha : s.a ≤ 8 * s.m) (hm : s.m ≤ 1000) (hE : s.E = 0) (hfc : 0 < s.m → f ≠ c) :
    Calls Try.prog 25 #[.pointer (some ⟨c, 0, none⟩), .int .i64 0] w fun e w' => TakeP w c f D s 0 e w' := by
  obtain ⟨h0, h1, f0, f1, hf, hc, hd⟩ := id h
  rw [hE] at h1
  have HK := Lib.hid h
  have HF := Lib.hid hf
  clear hf hd h
  go_enter Try.func25, Try.ntmps25
  go_wp2_with fail
  refine wp_loop_rounds 1 ?_
  rw [rounds_succ]
  go_wp2_with fail
  all_goals
    go_ret
    unfold TakeP
    exact ⟨rfl, _, _, HK.out.took 0 _ _ _ (by omega) (fun h0 => HF.out (by omega)) (by omega) hfc, (Fr.refl _ _).set _ _⟩
theorem rtake_ok (h : Rw w c f D s lo cap) (ha : s.a ≤ 8 * s.m) (hm : s.m ≤ 1000) (hE : s.E = 0) (hfc : 0 < s.m → f ≠ c) (n : Nat) (hn' : n ≤ 64) (hn : s.a + n ≤ 8 * s.m) :
    Calls Try.prog 25 #[.pointer (some ⟨c, 0, none⟩), .int .i64 n] w fun e w' => TakeP w c f D s n e w' := by
  by_cases h0 : n = 0
  · subst h0
    exact rtake_zero h ha hm hE hfc
  · have hl := h.hf (by omega)
    subst hl
    exact rtake_some h hm hE (hfc (by omega)) n hn' (by omega) hn
theorem rends_any (h : Rw w c f D s lo cap) (hm : s.m ≤ 1000) :
    Calls Try.prog 28 #[.pointer (some ⟨c, 0, none⟩)] w fun e w' => e = .returned (.int .i64 (if s.E = 0 ∧ s.a < 8 * s.m then 3 else s.E)) ∧ ∃ k, w' = w.drewN k := by
  obtain ⟨h0, h1, f0, f1, hf, hc, hd⟩ := id h
  clear hf hd hc h
  by_cases hE : s.E = 0
  · by_cases ha : s.a < 8 * s.m
    · rw [if_pos ⟨hE, ha⟩]
      rw [hE] at h1
      have hl : (8 * s.m - s.a : Nat) > 0 := by omega
      go_enter Try.func28, Try.ntmps28
      go_wp2
      go_ret
      exact ⟨rfl, 0, rfl⟩
    · rw [if_neg (by omega)]
      have hl : (8 * s.m - s.a : Nat) = 0 := by omega
      rw [hl] at h0
      rw [hE] at h1 ⊢
      go_enter Try.func28, Try.ntmps28
      go_wp2
      go_ret
      exact ⟨rfl, 0, rfl⟩
  · rw [if_neg (by omega)]
    have hE' : (s.E == 0) = false := by simpa using hE
    go_enter Try.func28, Try.ntmps28
    go_wp2
    go_ret
    exact ⟨rfl, 0, rfl⟩
theorem end_any {b cap : Nat} {fo : Option Addr} (h : Rd w b f D s fo cap) (ha : s.a ≤ 8 * s.m) (hm : s.m ≤ 1000) :
    Calls Try.prog 27 #[.pointer (some ⟨b, 0, none⟩)] w fun e w' => e = .returned (.int .i64 (if s.E = 0 ∧ s.a < 8 * s.m then 3 else s.E)) ∧ ∃ k, w' = w.drewN k := by
  obtain ⟨h0, h1, h2, f0, f1, f2, hf, hd⟩ := id h
  clear hf hd h0 h1 f0 f1 f2
  by_cases hE : s.E = 0
  · by_cases hl : s.a < 8 * s.m
    · rw [if_pos ⟨hE, hl⟩]
      rw [hE] at h2
      go_enter Try.func27, Try.ntmps27
      go_wp2_with (go_at_call 26; refine (left_any h ha hm).mono ?_; rintro e w' ⟨rfl, k, rfl⟩)
      all_goals
        go_ret
        exact ⟨rfl, _, rfl⟩
    · rw [if_neg (by omega)]
      rw [hE] at h2 ⊢
      go_enter Try.func27, Try.ntmps27
      go_wp2_with (go_at_call 26; refine (left_any h ha hm).mono ?_; rintro e w' ⟨rfl, k, rfl⟩)
      all_goals
        go_ret
        exact ⟨rfl, _, rfl⟩
  · rw [if_neg (by omega)]
    have hE' : (s.E == 0) = false := by simpa using hE
    go_enter Try.func27, Try.ntmps27
    go_wp2
    go_ret
    exact ⟨rfl, 0, rfl⟩
end
end Go.Proofs.Ytgeaklemlnmnpaa.BW
