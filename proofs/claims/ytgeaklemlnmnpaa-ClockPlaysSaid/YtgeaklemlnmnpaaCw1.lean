/- The law ClockPlays walked: over any list of calls that lies in memory it returns true and changes nothing that was there. -/
import Derived.Test.YtgeaklemlnmnpaaCw0
set_option linter.unusedVariables false
namespace Go.Proofs.Ytgeaklemlnmnpaa.CW
open Go.RowKit
theorem below_only {B b : Nat} {w w1 w2 : World} (h : Below B w w1) (k : Only b w1 w2) (hb : B ≤ b) : Below B w w2 :=
  ⟨k.os.trans h.os, k.tape.trans h.tape, k.output.trans h.output, by have := h.size; have := k.size; omega, fun i hi => (k.block i (by omega)).trans (h.block i hi)⟩
theorem Ck.alloc {w : World} {b : Nat} {B s n : Int} (h : Ck w b B s n) (o : Obj) : Ck (w.alloc o) b B s n := by
  have hb := World.block_lt_of_cell? w _ h.c0
  have e : ∀ j, (w.alloc o).cell? ⟨b, j, none⟩ = w.cell? ⟨b, j, none⟩ := fun j => World.cell?_alloc_lt w o ⟨b, j, none⟩ hb
  have f : ∀ j, (w.alloc o).frozen? ⟨b, j, none⟩ = w.frozen? ⟨b, j, none⟩ := fun j => World.frozen?_alloc_old w o ⟨b, j, none⟩ (by simp at hb ⊢; omega)
  exact ⟨(e _).trans h.c0, (e _).trans h.c1, (e _).trans h.c2, (f _).trans h.f0, (f _).trans h.f1, (f _).trans h.f2⟩
theorem Ck.lt {w : World} {b : Nat} {B s n : Int} (h : Ck w b B s n) : b < w.heap.size := World.block_lt_of_cell? w _ h.c0
theorem Below.drewN' {B : Nat} {w W : World} (h : Below B w W) (n : Nat) : Below B w (W.drewN n) := ⟨h.os, h.tape, h.output, h.size, h.block⟩
theorem pw_b {B : Nat} {w W : World} (h : Below B w W) (n : Nat) : Below B w (W.drewN n) := ⟨h.os, h.tape, h.output, h.size, h.block⟩
theorem new_ck (w : World) : Ck (w.alloc (.cells #[.int .i64 0, .int .i64 0, .int .i64 0] 54)) w.heap.size 0 0 0 :=
  ⟨by simp, by simp, by simp, by simp, by simp, by simp⟩
theorem awake_any (w : World) : Calls Try.prog 15 #[] w fun e w' => e = .returned (.bool true) ∧ Below w.heap.size w w' := by
  have hk0 := new_ck w
  go_enter Try.func15, Try.ntmps15
  go_wp2_with (go_at_call 5; refine (new_any _).mono ?_; rintro e w' ⟨rfl, rfl⟩)
  refine (slot_yes w.heap.size 0 0 0 50 _ hk0 (by omega) (by omega) (by omega) (by omega) (by omega) (by omega)).mono ?_
  rintro e w1 ⟨rfl, hk1, ho1⟩
  have hk1' : Ck w1 w.heap.size 0 500000 1 := hk1
  clear hk1 hk0
  go_wp2_with fail
  refine (slot_yes w.heap.size 0 500000 1 50 _ hk1' (by omega) (by omega) (by omega) (by omega) (by omega) (by omega)).mono ?_
  rintro e w2 ⟨rfl, hk2, ho2⟩
  have hk2' : Ck w2 w.heap.size 0 1000000 2 := hk2
  clear hk2 hk1'
  go_wp2_with fail
  refine (off_any w.heap.size 0 1000000 2 _ hk2' (by omega) (by omega) (by omega) (by omega)).mono ?_
  rintro e w3 ⟨rfl, m3, rfl⟩
  have hk3 := hk2'.drewN m3
  go_wp2_with fail
  refine (slot_yes w.heap.size 0 1000000 2 (-100) _ hk3 (by omega) (by omega) (by omega) (by omega) (by omega) (by omega)).mono ?_
  rintro e w4 ⟨rfl, hk4, ho4⟩
  have hk4' : Ck w4 w.heap.size 0 0 3 := hk4
  clear hk4
  go_wp2_with fail
  refine (off_any w.heap.size 0 0 3 _ hk4' (by omega) (by omega) (by omega) (by omega)).mono ?_
  rintro e w5 ⟨rfl, m5, rfl⟩
  have hk5 := hk4'.drewN m5
  go_wp2_with fail
  refine (slots_any w.heap.size 0 0 3 _ hk5).mono ?_
  rintro e w6 ⟨rfl, rfl⟩
  go_wp2_with fail
  go_ret
  exact ⟨rfl, pw_b (below_only (Below.drewN' (below_only (below_only ((Below.refl _ _).alloc (Nat.le_refl _) _) ho1 (Nat.le_refl _)) ho2 (Nat.le_refl _)) m3) ho4 (Nat.le_refl _)) m5⟩
set_option maxRecDepth 100000 in
theorem law_nil (a : Option Addr) (cap : Nat) (w : World) :
    Calls Try.prog 3 #[.slice a 0 cap] w fun e w' => e = .returned (.bool true) ∧ Below w.heap.size w w' := by
  go_enter Try.func3, Try.ntmps3
  go_wp2_with (go_at_call 5; refine (new_any _).mono ?_; rintro e w' ⟨rfl, rfl⟩)
  go_loopw [12] (fun i wr => i = .int .i64 0 ∧ Below w.heap.size w wr) (fun i _ => 0)
  case atStart =>
    exact ⟨rfl, ((Below.refl _ _).alloc (Nat.le_refl _) _).alloc (by simp) _⟩
  case round =>
    obtain ⟨rfl, hbel⟩ := hrel
    go_wp2_with fail
    refine (awake_any _).mono ?_
    rintro e w' ⟨rfl, hbw⟩
    go_wp2_with fail
    go_ret
    exact ⟨rfl, hbel.trans (hbw.mono hbel.size)⟩
set_option maxRecDepth 100000 in
set_option maxHeartbeats 1000000 in
theorem law_any (b off len cap : Nat) (D N : Nat → Int) (w : World) (hlen : len ≤ 9223372036854775807) (hb : b < w.heap.size)
    (hc : ∀ j, j < len → w.cell? ⟨b, off + 2 * j, none⟩ = some (.int .i64 (D j)) ∧ w.cell? ⟨b, off + (2 * j + 1), none⟩ = some (.int .i64 (N j)))
    (hN : ∀ j, j < len → -9223372036854775808 ≤ N j ∧ N j ≤ 9223372036854775807) :
    Calls Try.prog 3 #[.slice (some ⟨b, off, none⟩) len cap] w fun e w' => e = .returned (.bool true) ∧ Below w.heap.size w w' := by
  have HC := Lib.hid hc
  have HN := Lib.hid hN
  clear hc hN
  go_enter Try.func3, Try.ntmps3
  go_wp2_with (go_at_call 5; refine (new_any _).mono ?_; rintro e w' ⟨rfl, rfl⟩)
  go_loopw [12] (fun i wr => ∃ k : Nat, k ≤ len ∧ k ≤ 300 ∧ i = .int .i64 k ∧ ∃ B s n, Ck wr w.heap.size B s n ∧ Ck wr (w.heap.size + 1) B s n ∧ -1000000000000 ≤ B ∧ B ≤ 1000000000000 ∧ -1000000 * k ≤ s ∧ s ≤ 1000000 * k ∧ 0 ≤ n ∧ n ≤ k ∧ Below w.heap.size w wr) (fun i _ => len - (intOf i).toNat)
  case atStart =>
    exact ⟨0, by omega, by omega, rfl, 0, 0, 0, (new_ck w).alloc _, ⟨by simp, by simp, by simp, by simp, by simp, by simp⟩, by omega, by omega, by omega, by omega, by omega, by omega, ((Below.refl _ _).alloc (Nat.le_refl _) _).alloc (by simp) _⟩
  case round =>
    obtain ⟨k, hk, hk3, rfl, B, s, n, h1, h2, hB, hB', hs, hs', hn, hn', hbel⟩ := hrel
    by_cases hlt : k < len
    · have hcell := HC.out k hlt
      have hc0 : wr.cell? ⟨b, off + k * 2, none⟩ = some (.int .i64 (D k)) := by rw [hbel.cell hb, Nat.mul_comm k 2]; exact hcell.1
      have hc1 : wr.cell? ⟨b, off + k * 2 + 1, none⟩ = some (.int .i64 (N k)) := by rw [hbel.cell hb, Nat.mul_comm k 2, Nat.add_assoc]; exact hcell.2
      clear hcell
      have hNk := HN.out k hlt
      by_cases h300 : 300 ≤ k
      · go_wp2_with fail
        refine (awake_any _).mono ?_
        rintro e w' ⟨rfl, hbw⟩
        go_wp2_with fail
        go_ret
        exact ⟨rfl, (hbel.alloc hbel.size _).trans (hbw.mono (by have := hbel.size; simp; omega))⟩
      · have hk1 := h1.alloc (.cells #[.int .i64 (D k), .int .i64 (N k)] 29)
        have hk2 := h2.alloc (.cells #[.int .i64 (D k), .int .i64 (N k)] 29)
        have hbelx := hbel.alloc hbel.size (.cells #[.int .i64 (D k), .int .i64 (N k)] 29)
        have l1 := h1.lt
        have l2 := h2.lt
        by_cases hd0 : D k = 0
        · have hd : (D k == 0) = true := by simpa using hd0
          have hx := cutI_bd (N k) 1000000000000 (by omega)
          have HD := Lib.hid hd0
          clear hd0
          go_wp2_with fail
          refine (put_any _ B s n (N k) _ hk1 (by omega) (by omega)).mono ?_
          rintro e w1 ⟨rfl, ha1, ho1⟩
          have hb1 := hk2.other ho1 (by omega)
          have hbel1 := below_only hbelx ho1 (Nat.le_refl _)
          have q0 : w1.cell? ⟨wr.heap.size, 0, none⟩ = some (.int .i64 (D k)) := (ho1.cell (by have := h1.lt; simp; omega)).trans (by simp)
          have q1 : w1.cell? ⟨wr.heap.size, 1, none⟩ = some (.int .i64 (N k)) := (ho1.cell (by have := h1.lt; simp; omega)).trans (by simp)
          go_wp2_with fail
          refine (rput_any _ B s n (N k) _ hb1 (by omega) (by omega)).mono ?_
          rintro e w2 ⟨rfl, ha2, ho2⟩
          have hc1 := ha1.other ho2 (by omega)
          have hbel2 := below_only hbel1 ho2 (by omega)
          have hN2 := ha2.c2
          clear q0 q1 ha1 hb1 ho1 ho2 hbel1 hk1 hk2 h1 h2 hbel hbelx hc0
          go_wp2_with fail
          go_quiet ((first | (go_at_call 12; exact Calls.quiet_of (off_any _ _ _ _ _ (hc1.drewN _) (by omega) (by omega) (by omega) (by omega))) | (go_at_call 13; exact Calls.quiet_of (roff_any _ _ _ _ _ (ha2.drewN _) (by omega) (by omega) (by omega) (by omega))) | (go_at_call 14; exact Calls.quiet_of_same (flip_ (slots_any _ _ _ _ _ (hc1.drewN _))))))
          go_wp2_with fail
          go_roundw
          case rel => exact ⟨k + 1, by omega, by omega, by go_num, _, _, _, hc1.drewN _, ha2.drewN _, by omega, by omega, by omega, by omega, by omega, by omega, pw_b hbel2 _⟩
          case measure => simp [intOf]; omega
        · by_cases hd1 : D k = 1
          · have hd : (D k == 0) = false := by simpa using hd0
            have hd' : (D k == 1) = true := by simpa using hd1
            have hx := cutI_bd (B + cutI (N k) 1000000) 1000000000000 (by omega)
            have HD := Lib.hid hd1
            clear hd1 hd0
            go_wp2_with fail
            refine (move_any _ B s n (N k) _ hk1 (by omega) (by omega) (by omega) (by omega)).mono ?_
            rintro e w1 ⟨rfl, ha1, ho1⟩
            have hb1 := hk2.other ho1 (by omega)
            have hbel1 := below_only hbelx ho1 (Nat.le_refl _)
            have q0 : w1.cell? ⟨wr.heap.size, 0, none⟩ = some (.int .i64 (D k)) := (ho1.cell (by have := h1.lt; simp; omega)).trans (by simp)
            have q1 : w1.cell? ⟨wr.heap.size, 1, none⟩ = some (.int .i64 (N k)) := (ho1.cell (by have := h1.lt; simp; omega)).trans (by simp)
            go_wp2_with fail
            refine (rmove_any _ B s n (N k) _ hb1 (by omega) (by omega) (by omega) (by omega)).mono ?_
            rintro e w2 ⟨rfl, ha2, ho2⟩
            have hc1 := ha1.other ho2 (by omega)
            have hbel2 := below_only hbel1 ho2 (by omega)
            have hN2 := ha2.c2
            clear q0 q1 ha1 hb1 ho1 ho2 hbel1 hk1 hk2 h1 h2 hbel hbelx hc0
            go_wp2_with fail
            go_quiet ((first | (go_at_call 12; exact Calls.quiet_of (off_any _ _ _ _ _ (hc1.drewN _) (by omega) (by omega) (by omega) (by omega))) | (go_at_call 13; exact Calls.quiet_of (roff_any _ _ _ _ _ (ha2.drewN _) (by omega) (by omega) (by omega) (by omega))) | (go_at_call 14; exact Calls.quiet_of_same (flip_ (slots_any _ _ _ _ _ (hc1.drewN _))))))
            go_wp2_with fail
            go_roundw
            case rel => exact ⟨k + 1, by omega, by omega, by go_num, _, _, _, hc1.drewN _, ha2.drewN _, by omega, by omega, by omega, by omega, by omega, by omega, pw_b hbel2 _⟩
            case measure => simp [intOf]; omega
          · have hd : (D k == 0) = false := by simpa using hd0
            have hd' : (D k == 1) = false := by simpa using hd1
            have hx := cutI_bd (N k) 100 (by omega)
            clear hd1 hd0
            go_wp2_with fail
            refine (slot_yes _ B s n (N k) _ hk1 (by omega) (by omega) (by omega) (by omega) (by omega) (by omega)).mono ?_
            rintro e w1 ⟨rfl, ha1, ho1⟩
            have hb1 := hk2.other ho1 (by omega)
            have hbel1 := below_only hbelx ho1 (Nat.le_refl _)
            have q0 : w1.cell? ⟨wr.heap.size, 0, none⟩ = some (.int .i64 (D k)) := (ho1.cell (by have := h1.lt; simp; omega)).trans (by simp)
            have q1 : w1.cell? ⟨wr.heap.size, 1, none⟩ = some (.int .i64 (N k)) := (ho1.cell (by have := h1.lt; simp; omega)).trans (by simp)
            go_wp2_with fail
            refine (rslot_yes _ B s n (N k) _ hb1 (by omega) (by omega) (by omega) (by omega) (by omega) (by omega)).mono ?_
            rintro e w2 ⟨rfl, ha2, ho2⟩
            have hc1 := ha1.other ho2 (by omega)
            have hbel2 := below_only hbel1 ho2 (by omega)
            have hN2 := ha2.c2
            clear q0 q1 ha1 hb1 ho1 ho2 hbel1 hk1 hk2 h1 h2 hbel hbelx hc0
            go_wp2_with fail
            go_quiet ((first | (go_at_call 12; exact Calls.quiet_of (off_any _ _ _ _ _ (hc1.drewN _) (by omega) (by omega) (by omega) (by omega))) | (go_at_call 13; exact Calls.quiet_of (roff_any _ _ _ _ _ (ha2.drewN _) (by omega) (by omega) (by omega) (by omega))) | (go_at_call 14; exact Calls.quiet_of_same (flip_ (slots_any _ _ _ _ _ (hc1.drewN _))))))
            go_wp2_with fail
            go_roundw
            case rel => exact ⟨k + 1, by omega, by omega, by go_num, _, _, _, hc1.drewN _, ha2.drewN _, by omega, by omega, by omega, by omega, by omega, by omega, pw_b hbel2 _⟩
            case measure => simp [intOf]; omega
    · have hke : k = len := by omega
      go_wp2_with fail
      refine (awake_any _).mono ?_
      rintro e w' ⟨rfl, hbw⟩
      go_wp2_with fail
      go_ret
      exact ⟨rfl, hbel.trans (hbw.mono hbel.size)⟩
end Go.Proofs.Ytgeaklemlnmnpaa.CW
