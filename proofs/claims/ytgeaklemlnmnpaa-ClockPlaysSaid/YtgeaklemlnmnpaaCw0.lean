/- What each function of the two clocks comes to, for a clock that lies at a block of its own; no other condition but the bounds that are stated. -/
import Derived.Test.YtgeaklemlnmnpaaRows
import Derived.WalkKit
import Derived.Tactics
import Derived.Deep.QuietTactic
import Derived.BigQuiet
import Derived.Outline
import Derived.RegionTactic
import Derived.ChangeAlike
import Derived.Lib.Hide
import Derived.LoopTactic
import Derived.StillTailTactics
import Derived.Deep.RegionWith
import Derived.IntWalk
set_option linter.unusedVariables false
namespace Go.Proofs.Ytgeaklemlnmnpaa.CW
open Go.RowKit
theorem ret_int {k : IntKind} {a b : Int} (h : a = b) : Ending.returned (.int k a) = .returned (.int k b) := by rw [h]
def cutI (n m : Int) : Int := if n < -m then -m else if m < n then m else n
theorem cut_any (n m : Int) (w : World) (h0 : 0 ≤ m) (h1 : m ≤ 1000000000000) :
    Calls Try.prog 29 #[.int .i64 n, .int .i64 m] w fun e w' => e = .returned (.int .i64 (cutI n m)) ∧ w = w' := by
  go_enter Try.func29, Try.ntmps29
  go_wp2
  all_goals
    go_ret
    exact ⟨ret_int (by unfold cutI; repeat (first | omega | split at * )), rfl⟩
theorem clamp_any (n l h : Int) (w : World) (hl : -9223372036854775808 ≤ l) (hlh : l ≤ h) (hh : h ≤ 9223372036854775807) :
    Calls Try.prog 30 #[.int .i64 n, .int .i64 l, .int .i64 h] w fun e w' => e = .returned (.int .i64 (if n < l then l else if h < n then h else n)) ∧ w = w' := by
  go_enter Try.func30, Try.ntmps30
  go_wp2
  all_goals
    go_ret
    exact ⟨ret_int (by repeat (first | omega | split at * | split)), rfl⟩
theorem cutI_bd (n m : Int) (h0 : 0 ≤ m) : -m ≤ cutI n m ∧ cutI n m ≤ m := by unfold cutI; repeat (first | omega | split)
theorem tdiv_facts (n : Int) : (0 ≤ n → n.tdiv 1000000 = n / 1000000 ∧ n.tmod 1000000 = n % 1000000) ∧ (n < 0 → n.tdiv 1000000 = -((-n) / 1000000) ∧ n.tmod 1000000 = -((-n) % 1000000)) := by
  refine ⟨fun h => ⟨Int.tdiv_eq_ediv_of_nonneg h, Int.tmod_eq_emod_of_nonneg h⟩, fun h => ?_⟩
  have e : n = -(-n) := by omega
  constructor
  · rw [e, Int.neg_tdiv, Int.tdiv_eq_ediv_of_nonneg (by omega)]; simp
  · rw [e, Int.neg_tmod, Int.tmod_eq_emod_of_nonneg (by omega)]; simp
theorem clamp_cut (n m : Int) (w : World) (h0 : 0 ≤ m) (h1 : m ≤ 1000000000000) :
    Calls Try.prog 30 #[.int .i64 n, .int .i64 (-m), .int .i64 m] w fun e w' => e = .returned (.int .i64 (cutI n m)) ∧ w = w' :=
  clamp_any n (-m) m w (by omega) (by omega) (by omega)
theorem flip_ {P : Program} {f : FuncId} {as_ : Array Value} {w : World} {v : Value} (h : Calls P f as_ w fun e w' => e = .returned v ∧ w = w') : Calls P f as_ w fun e w' => e = .returned v ∧ w' = w := h.mono fun _ _ ⟨a, b⟩ => ⟨a, b.symm⟩
theorem down_any (n : Int) (w : World) (hn : -9223372036854775808 ≤ n) (hn' : n ≤ 9223372036854775807) :
    Calls Try.prog 31 #[.int .i64 n, .int .i64 1000000] w fun e w' => e = .returned (.int .i64 (n / 1000000)) ∧ w = w' := by
  have hf := tdiv_facts n
  have hb : -9223372036854775807 ≤ n.tdiv 1000000 - 1 ∧ n.tdiv 1000000 ≤ 9223372036854775807 := by omega
  have HF := Lib.hid hf
  clear hf
  go_enter Try.func31, Try.ntmps31
  go_wp2
  all_goals
    have hf := HF.out
    go_ret
    exact ⟨ret_int (by omega), rfl⟩
theorem new_any (w : World) :
    Calls Try.prog 5 #[] w fun e w' => e = .returned (.pointer (some ⟨w.heap.size, 0, none⟩)) ∧ w' = w.alloc (.cells #[.int .i64 0, .int .i64 0, .int .i64 0] 54) := by
  go_enter Try.func5, Try.ntmps5
  go_wp2
  go_ret
  exact ⟨rfl, rfl⟩

theorem end_none {P : Program} {fn : Func} {R : Ending → World → Prop} {a : Act} {w : World} {e : Exit} (he : e = .normal ∨ e = .ret) (hr : fn.results = #[]) (hd : a.defers = []) (h : R (.returned (.tuple #[])) w) : bodyPost P fn R e a w := by
  rcases he with rfl | rfl
  · exact bodyPost_end (results_none hr _ _ _) hd h
  · exact bodyPost_ret (results_none hr _ _ _) hd h

/-- A clock lies at block b. -/
structure Ck (w : World) (b : Nat) (B s n : Int) : Prop where
  c0 : w.cell? ⟨b, 0, none⟩ = some (.int .i64 B)
  c1 : w.cell? ⟨b, 1, none⟩ = some (.int .i64 s)
  c2 : w.cell? ⟨b, 2, none⟩ = some (.int .i64 n)
  f0 : w.frozen? ⟨b, 0, none⟩ = false
  f1 : w.frozen? ⟨b, 1, none⟩ = false
  f2 : w.frozen? ⟨b, 2, none⟩ = false
/-- Block b alone has changed. -/
structure Only (b : Nat) (w w' : World) : Prop where
  os : w'.os = w.os
  tape : w'.tape = w.tape
  output : w'.output = w.output
  size : w'.heap.size = w.heap.size
  block : ∀ i, i ≠ b → w'.heap[i]? = w.heap[i]?
theorem Only.refl (b : Nat) (w : World) : Only b w w := ⟨rfl, rfl, rfl, rfl, fun _ _ => rfl⟩
theorem Only.trans {b : Nat} {w w1 w2 : World} (h : Only b w w1) (k : Only b w1 w2) : Only b w w2 :=
  ⟨k.os.trans h.os, k.tape.trans h.tape, k.output.trans h.output, k.size.trans h.size, fun i hi => (k.block i hi).trans (h.block i hi)⟩
theorem Only.drew {b : Nat} {w w1 : World} (h : Only b w w1) : Only b w w1.drew := ⟨h.os, h.tape, h.output, h.size, h.block⟩
theorem Only.drewN {b : Nat} {w w1 : World} (h : Only b w w1) (n : Nat) : Only b w (w1.drewN n) := ⟨h.os, h.tape, h.output, h.size, h.block⟩
theorem Only.set {b : Nat} {w w1 : World} (h : Only b w w1) (j : Nat) (v : Value) : Only b w (w1.setCell ⟨b, j, none⟩ v) :=
  ⟨h.os, h.tape, h.output, by simp [h.size], fun i hi => by rw [← h.block i hi]; exact Below.heap_setCell w1 ⟨b, j, none⟩ v i hi⟩
theorem Only.cell {b : Nat} {w w' : World} (h : Only b w w') {a : Addr} (ha : a.block ≠ b) : w'.cell? a = w.cell? a := by
  unfold World.cell?; rw [h.block _ ha]
theorem Only.frozen {b : Nat} {w w' : World} (h : Only b w w') {a : Addr} (ha : a.block ≠ b) : w'.frozen? a = w.frozen? a := by
  unfold World.frozen?; rw [h.block _ ha]
theorem Ck.other {b c : Nat} {w w' : World} {B s n : Int} (h : Ck w c B s n) (k : Only b w w') (hn : c ≠ b) : Ck w' c B s n :=
  ⟨(k.cell hn).trans h.c0, (k.cell hn).trans h.c1, (k.cell hn).trans h.c2, (k.frozen hn).trans h.f0, (k.frozen hn).trans h.f1, (k.frozen hn).trans h.f2⟩
theorem Ck.drew {w : World} {b : Nat} {B s n : Int} (h : Ck w b B s n) : Ck w.drew b B s n := ⟨h.c0, h.c1, h.c2, h.f0, h.f1, h.f2⟩
theorem Ck.drewN {w : World} {b : Nat} {B s n : Int} (h : Ck w b B s n) (k : Nat) : Ck (w.drewN k) b B s n := ⟨h.c0, h.c1, h.c2, h.f0, h.f1, h.f2⟩
theorem ne_off (b i j : Nat) (h : i ≠ j) : (⟨b, i, none⟩ : Addr) ≠ ⟨b, j, none⟩ := fun e => h (by injection e)
theorem Ck.set0 {w : World} {b : Nat} {B s n : Int} (h : Ck w b B s n) (x : Int) : Ck (w.setCell ⟨b, 0, none⟩ (.int .i64 x)) b x s n :=
  ⟨World.cell?_setCell_same _ _ _ h.c0, (World.cell?_setCell_other _ _ _ _ (ne_off b 0 1 (by decide))).trans h.c1, (World.cell?_setCell_other _ _ _ _ (ne_off b 0 2 (by decide))).trans h.c2, by simp [h.f0], by simp [h.f1], by simp [h.f2]⟩
theorem Ck.set1 {w : World} {b : Nat} {B s n : Int} (h : Ck w b B s n) (x : Int) : Ck (w.setCell ⟨b, 1, none⟩ (.int .i64 x)) b B x n :=
  ⟨(World.cell?_setCell_other _ _ _ _ (ne_off b 1 0 (by decide))).trans h.c0, World.cell?_setCell_same _ _ _ h.c1, (World.cell?_setCell_other _ _ _ _ (ne_off b 1 2 (by decide))).trans h.c2, by simp [h.f0], by simp [h.f1], by simp [h.f2]⟩
theorem Ck.set2 {w : World} {b : Nat} {B s n : Int} (h : Ck w b B s n) (x : Int) : Ck (w.setCell ⟨b, 2, none⟩ (.int .i64 x)) b B s x :=
  ⟨(World.cell?_setCell_other _ _ _ _ (ne_off b 2 0 (by decide))).trans h.c0, (World.cell?_setCell_other _ _ _ _ (ne_off b 2 1 (by decide))).trans h.c1, World.cell?_setCell_same _ _ _ h.c2, by simp [h.f0], by simp [h.f1], by simp [h.f2]⟩
theorem slot_yes (b : Nat) (B s n ppm : Int) (w : World) (hk : Ck w b B s n) (hn : n < 1099511627776) (hn0 : 0 ≤ n) (hp : -9223372036854775808 ≤ ppm) (hp' : ppm ≤ 9223372036854775807) (hs : -1000000000000000000 ≤ s) (hs' : s ≤ 1000000000000000000) :
    Calls Try.prog 10 #[.pointer (some ⟨b, 0, none⟩), .int .i64 ppm] w fun e w' => e = .returned (.tuple #[]) ∧ Ck w' b B (s + cutI ppm 100 * 10000) (n + 1) ∧ Only b w w' := by
  have hc := cutI_bd ppm 100 (by omega)
  obtain ⟨h0, h1, h2, f0, f1, f2⟩ := id hk
  have HK := Lib.hid hk
  clear hk
  go_enter Try.func10, Try.ntmps10
  go_wp2
  go_region_with (go_at_call 29; refine (cut_any _ _ _ (by omega) (by omega)).mono ?_; rintro e w' ⟨rfl, rfl⟩)
  all_goals
    refine end_none (.inl rfl) rfl rfl ⟨rfl, ?_, ?_⟩
    · rw [IntWalk.i64_in (cutI ppm 100 * 10000) (by omega), IntWalk.i64_in _ (by omega)]
      exact ((HK.out.set2 _).set1 _).drew
    · exact (((Only.refl _ _).set _ _).set _ _).drew
theorem slot_no (b : Nat) (B s n ppm : Int) (w : World) (hk : Ck w b B s n) (hn : 1099511627776 ≤ n) :
    Calls Try.prog 10 #[.pointer (some ⟨b, 0, none⟩), .int .i64 ppm] w fun e w' => e = .returned (.tuple #[]) ∧ w = w' := by
  obtain ⟨h0, h1, h2, f0, f1, f2⟩ := id hk
  go_enter Try.func10, Try.ntmps10
  go_wp2
  exact end_none (.inr rfl) rfl rfl ⟨rfl, rfl⟩
theorem rslot_yes (b : Nat) (B s n ppm : Int) (w : World) (hk : Ck w b B s n) (hn : n < 1099511627776) (hn0 : 0 ≤ n) (hp : -9223372036854775808 ≤ ppm) (hp' : ppm ≤ 9223372036854775807) (hs : -1000000000000000000 ≤ s) (hs' : s ≤ 1000000000000000000) :
    Calls Try.prog 11 #[.pointer (some ⟨b, 0, none⟩), .int .i64 ppm] w fun e w' => e = .returned (.tuple #[]) ∧ Ck w' b B (s + cutI ppm 100 * 10000) (n + 1) ∧ Only b w w' := by
  have hc := cutI_bd ppm 100 (by omega)
  obtain ⟨h0, h1, h2, f0, f1, f2⟩ := id hk
  have HK := Lib.hid hk
  clear hk
  go_enter Try.func11, Try.ntmps11
  go_wp2
  go_region_with (go_at_call 30; refine (clamp_cut _ _ _ (by omega) (by omega)).mono ?_; rintro e w' ⟨rfl, rfl⟩)
  all_goals
    refine end_none (.inl rfl) rfl rfl ⟨rfl, ?_, ?_⟩
    · rw [IntWalk.i64_in (cutI ppm 100 * 10000) (by omega), IntWalk.i64_in _ (by omega)]
      exact ((HK.out.set2 _).set1 _).drew
    · exact (((Only.refl _ _).set _ _).set _ _).drew
theorem put_any (b : Nat) (B s n off : Int) (w : World) (hk : Ck w b B s n) (hp : -9223372036854775808 ≤ off) (hp' : off ≤ 9223372036854775807) :
    Calls Try.prog 6 #[.pointer (some ⟨b, 0, none⟩), .int .i64 off] w fun e w' => e = .returned (.tuple #[]) ∧ Ck w' b (cutI off 1000000000000) 0 n ∧ Only b w w' := by
  have hc := cutI_bd off 1000000000000 (by omega)
  obtain ⟨h0, h1, h2, f0, f1, f2⟩ := id hk
  have HK := Lib.hid hk
  clear hk
  go_enter Try.func6, Try.ntmps6
  go_wp2_with (go_at_call 29; refine (cut_any _ _ _ (by omega) (by omega)).mono ?_; rintro e w' ⟨rfl, rfl⟩)
  refine end_none (.inl rfl) rfl rfl ⟨rfl, ?_, ?_⟩
  · exact (HK.out.set0 _).set1 _
  · exact ((Only.refl _ _).set _ _).set _ _
theorem rput_any (b : Nat) (B s n off : Int) (w : World) (hk : Ck w b B s n) (hp : -9223372036854775808 ≤ off) (hp' : off ≤ 9223372036854775807) :
    Calls Try.prog 7 #[.pointer (some ⟨b, 0, none⟩), .int .i64 off] w fun e w' => e = .returned (.tuple #[]) ∧ Ck w' b (cutI off 1000000000000) 0 n ∧ Only b w w' := by
  have hc := cutI_bd off 1000000000000 (by omega)
  obtain ⟨h0, h1, h2, f0, f1, f2⟩ := id hk
  have HK := Lib.hid hk
  clear hk
  go_enter Try.func7, Try.ntmps7
  go_wp2_with (go_at_call 30; refine (clamp_cut _ _ _ (by omega) (by omega)).mono ?_; rintro e w' ⟨rfl, rfl⟩)
  refine end_none (.inl rfl) rfl rfl ⟨rfl, ?_, ?_⟩
  · exact (HK.out.set0 _).set1 _
  · exact ((Only.refl _ _).set _ _).set _ _
theorem move_any (b : Nat) (B s n t : Int) (w : World) (hk : Ck w b B s n) (hp : -9223372036854775808 ≤ t) (hp' : t ≤ 9223372036854775807) (hB : -1000000000000 ≤ B) (hB' : B ≤ 1000000000000) :
    Calls Try.prog 8 #[.pointer (some ⟨b, 0, none⟩), .int .i64 t] w fun e w' => e = .returned (.tuple #[]) ∧ Ck w' b (cutI (B + cutI t 1000000) 1000000000000) s n ∧ Only b w w' := by
  have hc := cutI_bd t 1000000 (by omega)
  have hd := cutI_bd (B + cutI t 1000000) 1000000000000 (by omega)
  have he : IntKind.i64.wrap (B + cutI t 1000000) = B + cutI t 1000000 := IntWalk.i64_in _ (by omega)
  obtain ⟨h0, h1, h2, f0, f1, f2⟩ := id hk
  have HK := Lib.hid hk
  clear hk
  go_enter Try.func8, Try.ntmps8
  go_wp2
  have HE := Lib.hid he
  clear he
  go_region_with (go_at_call 29; refine (cut_any _ _ _ (by omega) (by omega)).mono ?_; rintro e w' ⟨rfl, rfl⟩)
  all_goals
    refine end_none (.inl rfl) rfl rfl ⟨rfl, ?_, ?_⟩
    · rw [HE.out]
      exact (HK.out.set0 _).drew
    · exact ((Only.refl _ _).set _ _).drew
theorem rmove_any (b : Nat) (B s n t : Int) (w : World) (hk : Ck w b B s n) (hp : -9223372036854775808 ≤ t) (hp' : t ≤ 9223372036854775807) (hB : -1000000000000 ≤ B) (hB' : B ≤ 1000000000000) :
    Calls Try.prog 9 #[.pointer (some ⟨b, 0, none⟩), .int .i64 t] w fun e w' => e = .returned (.tuple #[]) ∧ Ck w' b (cutI (B + cutI t 1000000) 1000000000000) s n ∧ Only b w w' := by
  have hc := cutI_bd t 1000000 (by omega)
  have hd := cutI_bd (B + cutI t 1000000) 1000000000000 (by omega)
  have he : IntKind.i64.wrap (B + cutI t 1000000) = B + cutI t 1000000 := IntWalk.i64_in _ (by omega)
  obtain ⟨h0, h1, h2, f0, f1, f2⟩ := id hk
  have HK := Lib.hid hk
  clear hk
  have HE := Lib.hid he
  clear he
  go_enter Try.func9, Try.ntmps9
  go_wp2
  go_region_with (go_at_call 30; refine (clamp_cut _ _ _ (by omega) (by omega)).mono ?_; rintro e w' ⟨rfl, rfl⟩)
  all_goals
    refine end_none (.inl rfl) rfl rfl ⟨rfl, ?_, ?_⟩
    · rw [HE.out]
      exact (HK.out.set0 _).drew
    · exact ((Only.refl _ _).set _ _).drew
theorem off_any (b : Nat) (B s n : Int) (w : World) (hk : Ck w b B s n) (hB : -1000000000000 ≤ B) (hB' : B ≤ 1000000000000) (hs : -1000000000000000000 ≤ s) (hs' : s ≤ 1000000000000000000) :
    Calls Try.prog 12 #[.pointer (some ⟨b, 0, none⟩)] w fun e w' => e = .returned (.int .i64 (B + s / 1000000)) ∧ ∃ k, w' = w.drewN k := by
  obtain ⟨h0, h1, h2, f0, f1, f2⟩ := id hk
  have HK := Lib.hid hk
  clear hk
  have he := Lib.hid (show IntKind.i64.wrap (B + s / 1000000) = B + s / 1000000 from IntWalk.i64_in _ (by omega))
  go_enter Try.func12, Try.ntmps12
  go_wp2
  go_quiet ((go_at_call 31; exact Calls.quiet_of_same (flip_ (down_any _ _ (by omega) (by omega)))))
  go_wp2
  go_ret
  exact ⟨ret_int rfl, _, rfl⟩
theorem roff_any (b : Nat) (B s n : Int) (w : World) (hk : Ck w b B s n) (hB : -1000000000000 ≤ B) (hB' : B ≤ 1000000000000) (hs : -1000000000000000000 ≤ s) (hs' : s ≤ 1000000000000000000) :
    Calls Try.prog 13 #[.pointer (some ⟨b, 0, none⟩)] w fun e w' => e = .returned (.int .i64 (B + s / 1000000)) ∧ ∃ k, w' = w.drewN k := by
  obtain ⟨h0, h1, h2, f0, f1, f2⟩ := id hk
  have HK := Lib.hid hk
  clear hk
  have hf := tdiv_facts s
  have hb : -9223372036854775807 ≤ s.tdiv 1000000 - 1 ∧ s.tdiv 1000000 ≤ 9223372036854775807 := by omega
  have HF := Lib.hid hf
  clear hf
  go_enter Try.func13, Try.ntmps13
  go_wp2
  all_goals
    have hf := HF.out
    go_ret
    refine ⟨ret_int ?_, 0, rfl⟩
    rw [IntWalk.wrap64_in _ (by omega)]
    omega
theorem slots_any (b : Nat) (B s n : Int) (w : World) (hk : Ck w b B s n) :
    Calls Try.prog 14 #[.pointer (some ⟨b, 0, none⟩)] w fun e w' => e = .returned (.int .i64 n) ∧ w = w' := by
  obtain ⟨h0, h1, h2, f0, f1, f2⟩ := id hk
  go_enter Try.func14, Try.ntmps14
  go_wp2
  go_ret
  exact ⟨rfl, rfl⟩
end Go.Proofs.Ytgeaklemlnmnpaa.CW
