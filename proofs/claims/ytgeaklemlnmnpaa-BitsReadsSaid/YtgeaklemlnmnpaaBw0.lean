/- What each function of the two readers of bits comes to, for a reader that lies at a block of its own. -/
import Derived.Test.YtgeaklemlnmnpaaRows
import Derived.WalkKit
import Derived.Tactics
import Derived.Deep.QuietTactic
import Derived.BigQuiet
import Derived.Outline
import Derived.RegionTactic
import Derived.ChangeAlike
import Derived.Lib.Hide
import Derived.LoopTactic
import Derived.StillTailTactics
import Derived.Deep.RegionWith
import Derived.IntWalk
set_option linter.unusedVariables false
namespace Go.Proofs.Ytgeaklemlnmnpaa.BW
open Go.RowKit
theorem ret_int {k : IntKind} {a b : Int} (h : a = b) : Ending.returned (.int k a) = .returned (.int k b) := by rw [h]
theorem ret_bool {a b : Bool} (h : a = b) : Ending.returned (.bool a) = .returned (.bool b) := by rw [h]
theorem end_none {P : Program} {fn : Func} {R : Ending → World → Prop} {a : Act} {w : World} {e : Exit} (he : e = .normal ∨ e = .ret) (hr : fn.results = #[]) (hd : a.defers = []) (h : R (.returned (.tuple #[])) w) : bodyPost P fn R e a w := by
  rcases he with rfl | rfl
  · exact bodyPost_end (results_none hr _ _ _) hd h
  · exact bodyPost_ret (results_none hr _ _ _) hd h
/-- Block b alone has changed; there may be new blocks. -/
structure Fr (b : Nat) (w w' : World) : Prop where
  os : w'.os = w.os
  tape : w'.tape = w.tape
  output : w'.output = w.output
  size : w.heap.size ≤ w'.heap.size
  block : ∀ i, i < w.heap.size → i ≠ b → w'.heap[i]? = w.heap[i]?
theorem Fr.refl (b : Nat) (w : World) : Fr b w w := ⟨rfl, rfl, rfl, Nat.le_refl _, fun _ _ _ => rfl⟩
theorem Fr.trans {b : Nat} {w w1 w2 : World} (h : Fr b w w1) (k : Fr b w1 w2) : Fr b w w2 :=
  ⟨k.os.trans h.os, k.tape.trans h.tape, k.output.trans h.output, Nat.le_trans h.size k.size, fun i hi hb => (k.block i (Nat.lt_of_lt_of_le hi h.size) hb).trans (h.block i hi hb)⟩
theorem Fr.drewN {b : Nat} {w w1 : World} (h : Fr b w w1) (n : Nat) : Fr b w (w1.drewN n) := ⟨h.os, h.tape, h.output, h.size, h.block⟩
theorem Fr.drew {b : Nat} {w w1 : World} (h : Fr b w w1) : Fr b w w1.drew := ⟨h.os, h.tape, h.output, h.size, h.block⟩
theorem Fr.set {b : Nat} {w w1 : World} (h : Fr b w w1) (j : Nat) (v : Value) : Fr b w (w1.setCell ⟨b, j, none⟩ v) :=
  ⟨h.os, h.tape, h.output, by simp [h.size], fun i hi hb => by rw [← h.block i hi hb]; exact Below.heap_setCell w1 ⟨b, j, none⟩ v i hb⟩
theorem Fr.alloc {b : Nat} {w w1 : World} (h : Fr b w w1) (o : Obj) : Fr b w (w1.alloc o) :=
  ⟨h.os, h.tape, h.output, by have := h.size; simp; omega, fun i hi hb => by rw [← h.block i hi hb]; exact Below.heap_alloc w1 o i (by have := h.size; omega)⟩
theorem Fr.grown {b : Nat} {w w1 w2 : World} {row : Option Nat} (h : Fr b w w1) (hg : w1.grownBy w2 row) (hr : ∀ k, row = some k → k = b ∨ w.heap.size ≤ k) : Fr b w w2 :=
  ⟨hg.os.trans h.os, hg.tape.trans h.tape, hg.output.trans h.output, Nat.le_trans h.size hg.size, fun i hi hb =>
    (hg.block i (Nat.lt_of_lt_of_le hi h.size) (fun e => by rcases hr i e.symm with h | h <;> omega)).trans (h.block i hi hb)⟩
theorem Fr.cell {b : Nat} {w w' : World} (h : Fr b w w') {a : Addr} (hl : a.block < w.heap.size) (ha : a.block ≠ b) : w'.cell? a = w.cell? a := by
  unfold World.cell?; rw [h.block _ hl ha]
theorem Fr.frozen {b : Nat} {w w' : World} (h : Fr b w w') {a : Addr} (hl : a.block < w.heap.size) (ha : a.block ≠ b) : w'.frozen? a = w.frozen? a := by
  unfold World.frozen?; rw [h.block _ hl ha]
theorem Fr.below {B b : Nat} {w w1 w2 : World} (h : Below B w w1) (k : Fr b w1 w2) (hb : B ≤ b) (hB : B ≤ w.heap.size) : Below B w w2 :=
  ⟨k.os.trans h.os, k.tape.trans h.tape, k.output.trans h.output, by have := h.size; have := k.size; omega, fun i hi => (k.block i (by have := h.size; omega) (by omega)).trans (h.block i hi)⟩

/-- Where a reader stands: m bytes, bit a of them is next, an error. -/
structure St where
  m : Nat
  a : Nat
  E : Int
/-- The reader at block b, its bytes at block f. -/
structure Rd (w : World) (b f : Nat) (D : Nat → Int) (s : St) (fo : Option Addr) (cap : Nat) : Prop where
  c0 : w.cell? ⟨b, 0, none⟩ = some (.slice fo s.m cap)
  c1 : w.cell? ⟨b, 1, none⟩ = some (.int .i64 s.a)
  c2 : w.cell? ⟨b, 2, none⟩ = some (.int .i64 s.E)
  f0 : w.frozen? ⟨b, 0, none⟩ = false
  f1 : w.frozen? ⟨b, 1, none⟩ = false
  f2 : w.frozen? ⟨b, 2, none⟩ = false
  hf : 0 < s.m → fo = some ⟨f, 0, none⟩
  hd : ∀ j, j < s.m → w.cell? ⟨f, j, none⟩ = some (.int .u8 (D j))
/-- Bit i of bytes. -/
def bitOf (D : Nat → Int) (i : Nat) : Int := D (i / 8) / 2 ^ (7 - i % 8) % 2
def num (D : Nat → Int) (a : Nat) : Nat → Int
  | 0 => 0
  | k + 1 => bits .or .u64 (IntKind.u64.wrap (num D a k * 2)) (bitOf D (a + k))
theorem and8 : ∀ n : Fin 256, bits BinOp.and IntKind.u8 (n.val : Int) 1 = (n.val : Int) % 2 := by decide +kernel
theorem and64 : ∀ n : Fin 256, bits BinOp.and IntKind.u64 (n.val : Int) 1 = (n.val : Int) % 2 := by decide +kernel
theorem and8_of (b : Int) (h0 : 0 ≤ b) (h1 : b < 256) : bits BinOp.and IntKind.u8 b 1 = b % 2 := by
  have := and8 ⟨b.toNat, by omega⟩
  simpa [Int.toNat_of_nonneg h0] using this
theorem and64_of (b : Int) (h0 : 0 ≤ b) (h1 : b < 256) : bits BinOp.and IntKind.u64 b 1 = b % 2 := by
  have := and64 ⟨b.toNat, by omega⟩
  simpa [Int.toNat_of_nonneg h0] using this
theorem shr_bd (x : Int) (k : Nat) (h0 : 0 ≤ x) (h1 : x ≤ 255) : 0 ≤ x / 2 ^ k ∧ x / 2 ^ k < 256 := by
  have hp : (0 : Int) < 2 ^ k := Int.pow_pos (by decide)
  exact ⟨Int.ediv_nonneg h0 (Int.le_of_lt hp), by have := Int.ediv_le_self (b := 2 ^ k) h0; omega⟩
theorem bit_u8 (x : Int) (k : Nat) (h0 : 0 ≤ x) (h1 : x ≤ 255) : IntKind.u64.wrap (bits BinOp.and IntKind.u8 (x / 2 ^ k) 1) = x / 2 ^ k % 2 := by
  obtain ⟨a, b⟩ := shr_bd x k h0 h1
  rw [and8_of _ a b]
  generalize x / 2 ^ k = y at *
  simp only [IntKind.wrap, IntKind.signed, IntKind.bits, Bool.false_and, Bool.false_eq_true, if_false]
  omega
theorem bit_u64 (x : Int) (k : Nat) (h0 : 0 ≤ x) (h1 : x ≤ 255) : IntKind.u8.wrap (bits BinOp.and IntKind.u64 (x / 2 ^ k) 1) = x / 2 ^ k % 2 := by
  obtain ⟨a, b⟩ := shr_bd x k h0 h1
  rw [and64_of _ a b]
  generalize x / 2 ^ k = y at *
  simp only [IntKind.wrap, IntKind.signed, IntKind.bits, Bool.false_and, Bool.false_eq_true, if_false]
  omega
theorem bitOf_bd (D : Nat → Int) (i : Nat) : 0 ≤ bitOf D i ∧ bitOf D i ≤ 1 := by unfold bitOf; omega
theorem ne_off (b i j : Nat) (h : i ≠ j) : (⟨b, i, none⟩ : Addr) ≠ ⟨b, j, none⟩ := fun e => h (by injection e)
theorem ne_blk (b c i j : Nat) (h : b ≠ c) : (⟨b, i, none⟩ : Addr) ≠ ⟨c, j, none⟩ := fun e => h (by injection e)
theorem Rd.drewN {w : World} {b f : Nat} {D : Nat → Int} {s : St} {fo : Option Addr} {cap : Nat} (h : Rd w b f D s fo cap) (k : Nat) : Rd (w.drewN k) b f D s fo cap := ⟨h.c0, h.c1, h.c2, h.f0, h.f1, h.f2, h.hf, h.hd⟩
theorem Rd.drew {w : World} {b f : Nat} {D : Nat → Int} {s : St} {fo : Option Addr} {cap : Nat} (h : Rd w b f D s fo cap) : Rd w.drew b f D s fo cap := ⟨h.c0, h.c1, h.c2, h.f0, h.f1, h.f2, h.hf, h.hd⟩
theorem Rd.lt {w : World} {b f : Nat} {D : Nat → Int} {s : St} {fo : Option Addr} {cap : Nat} (h : Rd w b f D s fo cap) : b < w.heap.size := World.block_lt_of_cell? w _ h.c0
theorem Rd.flt {w : World} {b f : Nat} {D : Nat → Int} {s : St} {fo : Option Addr} {cap : Nat} (h : Rd w b f D s fo cap) (hm : 0 < s.m) : f < w.heap.size := World.block_lt_of_cell? w _ (h.hd 0 hm)
/-- another block has changed -/
theorem Rd.other {w w' : World} {b f c : Nat} {D : Nat → Int} {s : St} {fo : Option Addr} {cap : Nat} (h : Rd w b f D s fo cap) (k : Fr c w w') (hb : b ≠ c) (hf : 0 < s.m → f ≠ c) : Rd w' b f D s fo cap :=
  have hl := h.lt
  ⟨(k.cell hl hb).trans h.c0, (k.cell hl hb).trans h.c1, (k.cell hl hb).trans h.c2, (k.frozen hl hb).trans h.f0, (k.frozen hl hb).trans h.f1, (k.frozen hl hb).trans h.f2, h.hf,
    fun j hj => (k.cell (h.flt (by omega)) (hf (by omega))).trans (h.hd j hj)⟩
theorem Rd.at {w : World} {b f : Nat} {D : Nat → Int} {s : St} {fo : Option Addr} {cap : Nat} (h : Rd w b f D s fo cap) (x : Nat) (v : Int) (hv : v = x) (hb : 0 < s.m → f ≠ b) : Rd (w.setCell ⟨b, 1, none⟩ (.int .i64 v)) b f D ⟨s.m, x, s.E⟩ fo cap :=
  ⟨(World.cell?_setCell_other _ _ _ _ (ne_off b 1 0 (by decide))).trans h.c0, by rw [← hv]; exact World.cell?_setCell_same _ _ _ h.c1, (World.cell?_setCell_other _ _ _ _ (ne_off b 1 2 (by decide))).trans h.c2, by simp [h.f0], by simp [h.f1], by simp [h.f2], h.hf,
    fun j hj => (World.cell?_setCell_other _ _ _ _ (ne_blk b f 1 j (fun e => hb (Nat.lt_of_le_of_lt (Nat.zero_le j) hj) e.symm))).trans (h.hd j hj)⟩
theorem good_yes (n : Int) (w : World) (h0 : 0 ≤ n) (h1 : n ≤ 64) :
    Calls Try.prog 41 #[.int .i64 n] w fun e w' => e = .returned (.bool true) ∧ w = w' := by
  go_enter Try.func41, Try.ntmps41
  go_wp2
  all_goals
    go_ret
    exact ⟨ret_bool (by simp), rfl⟩
theorem good_no (n : Int) (w : World) (h : n < 0 ∨ 64 < n) :
    Calls Try.prog 41 #[.int .i64 n] w fun e w' => e = .returned (.bool false) ∧ w = w' := by
  rcases h with h | h
  all_goals
    go_enter Try.func41, Try.ntmps41
    go_wp2
    go_ret
    exact ⟨ret_bool (by first | rfl | (simp; omega)), rfl⟩
theorem left_any {b f : Nat} {D : Nat → Int} {s : St} {fo : Option Addr} {cap : Nat} {w : World} (h : Rd w b f D s fo cap) (ha : s.a ≤ 8 * s.m) (hm : s.m ≤ 1000) :
    Calls Try.prog 26 #[.pointer (some ⟨b, 0, none⟩)] w fun e w' => e = .returned (.int .i64 (8 * s.m - s.a : Int)) ∧ ∃ k, w' = w.drewN k := by
  obtain ⟨h0, h1, h2, f0, f1, f2, hf, hd⟩ := id h
  clear hf hd
  go_enter Try.func26, Try.ntmps26
  go_wp2
  go_region
  all_goals
    (try go_wp2)
    go_ret
    exact ⟨ret_int (by omega), _, rfl⟩
theorem bytes_any {b f : Nat} {D : Nat → Int} {s : St} {fo : Option Addr} {cap : Nat} {w : World} (h : Rd w b f D s fo cap) :
    Calls Try.prog 37 #[.pointer (some ⟨b, 0, none⟩)] w fun e w' => e = .returned (.slice fo s.m cap) ∧ w = w' := by
  obtain ⟨h0, h1, h2, f0, f1, f2, hf, hd⟩ := id h
  clear hf hd
  go_enter Try.func37, Try.ntmps37
  go_wp2
  go_ret
  exact ⟨rfl, rfl⟩
theorem fails_any {b f : Nat} {D : Nat → Int} {s : St} {fo : Option Addr} {cap : Nat} {w : World} (h : Rd w b f D s fo cap) (e : Int) :
    Calls Try.prog 40 #[.pointer (some ⟨b, 0, none⟩), .int .i64 e] w fun e' w' => e' = .returned (.tuple #[]) ∧ Rd w' b f D ⟨0, 0, e⟩ none 0 ∧ Fr b w w' := by
  obtain ⟨h0, h1, h2, f0, f1, f2, hf, hd⟩ := id h
  clear hf hd
  go_enter Try.func40, Try.ntmps40
  go_wp2
  refine end_none (.inl rfl) rfl rfl ⟨rfl, ⟨?_, ?_, ?_, by simp [f0], by simp [f1], by simp [f2], fun h => absurd h (Nat.lt_irrefl 0), fun j hj => absurd hj (Nat.not_lt_zero j)⟩, ?_⟩
  · rw [World.cell?_setCell_other _ _ _ _ (ne_off b 1 0 (by decide))]
    exact World.cell?_setCell_same _ _ _ ((World.cell?_setCell_other _ _ _ _ (ne_off b 2 0 (by decide))).trans h0)
  · exact World.cell?_setCell_same _ _ _ (((World.cell?_setCell_other _ _ _ _ (ne_off b 0 1 (by decide))).trans (World.cell?_setCell_other _ _ _ _ (ne_off b 2 1 (by decide)))).trans h1)
  · rw [World.cell?_setCell_other _ _ _ _ (ne_off b 1 2 (by decide)), World.cell?_setCell_other _ _ _ _ (ne_off b 0 2 (by decide))]
    exact World.cell?_setCell_same _ _ _ h2
  · exact (((Fr.refl _ _).set _ _).set _ _).set _ _
theorem bit_any {b f : Nat} {D : Nat → Int} {s : St} {fo : Option Addr} {cap : Nat} {w : World} (h : Rd w b f D s fo cap) (ha : s.a < 8 * s.m) (hm : s.m ≤ 1000) (hfb : f ≠ b) (hD : 0 ≤ D (s.a / 8) ∧ D (s.a / 8) ≤ 255) :
    Calls Try.prog 39 #[.pointer (some ⟨b, 0, none⟩)] w fun e w' => e = .returned (.int .u64 (bitOf D s.a)) ∧ Rd w' b f D ⟨s.m, s.a + 1, s.E⟩ fo cap ∧ Fr b w w' := by
  obtain ⟨h0, h1, h2, f0, f1, f2, hf, hd⟩ := id h
  obtain rfl := hf (by omega)
  have hc := hd (s.a / 8) (by omega)
  have HK := Lib.hid h
  clear hf hd h
  go_enter Try.func39, Try.ntmps39
  go_wp2
  go_region
  all_goals
    (try go_wp2)
    go_ret
    refine ⟨ret_int (bit_u8 _ _ hD.1 hD.2), ?_, ?_⟩
    · exact (HK.out.at (s.a + 1) _ (by omega) (fun _ => hfb)).drew
    · exact ((Fr.refl _ _).set _ _).drew
theorem ready_yes {b f : Nat} {D : Nat → Int} {s : St} {fo : Option Addr} {cap : Nat} {w : World} (h : Rd w b f D s fo cap) (ha : s.a ≤ 8 * s.m) (hm : s.m ≤ 1000) (hE : s.E = 0) (n : Int) (hn : n ≤ 8 * s.m - s.a) :
    Calls Try.prog 36 #[.pointer (some ⟨b, 0, none⟩), .int .i64 n] w fun e w' => e = .returned (.bool true) ∧ ∃ k, w' = w.drewN k := by
  obtain ⟨h0, h1, h2, f0, f1, f2, hf, hd⟩ := id h
  have HK := Lib.hid h
  clear hf hd h
  rw [hE] at h2
  go_enter Try.func36, Try.ntmps36
  go_wp2_with (go_at_call 26; refine (left_any HK.out (by omega) (by omega)).mono ?_; rintro e w' ⟨rfl, k, rfl⟩)
  all_goals
    go_ret
    exact ⟨rfl, _, rfl⟩
theorem ready_err {b f : Nat} {D : Nat → Int} {s : St} {fo : Option Addr} {cap : Nat} {w : World} (h : Rd w b f D s fo cap) (hE : s.E ≠ 0) (n : Int) :
    Calls Try.prog 36 #[.pointer (some ⟨b, 0, none⟩), .int .i64 n] w fun e w' => e = .returned (.bool false) ∧ w = w' := by
  obtain ⟨h0, h1, h2, f0, f1, f2, hf, hd⟩ := id h
  clear hf hd h
  go_enter Try.func36, Try.ntmps36
  go_wp2
  all_goals
    go_ret
    exact ⟨rfl, rfl⟩
theorem ready_short {b f : Nat} {D : Nat → Int} {s : St} {fo : Option Addr} {cap : Nat} {w : World} (h : Rd w b f D s fo cap) (ha : s.a ≤ 8 * s.m) (hm : s.m ≤ 1000) (hE : s.E = 0) (n : Int) (hn : 8 * s.m - s.a < n) :
    Calls Try.prog 36 #[.pointer (some ⟨b, 0, none⟩), .int .i64 n] w fun e w' => e = .returned (.bool false) ∧ Rd w' b f D ⟨0, 0, 2⟩ none 0 ∧ Fr b w w' := by
  obtain ⟨h0, h1, h2, f0, f1, f2, hf, hd⟩ := id h
  have HK := Lib.hid h
  clear hf hd h
  rw [hE] at h2
  go_enter Try.func36, Try.ntmps36
  go_wp2_with (first | (go_at_call 26; refine (left_any HK.out (by omega) (by omega)).mono ?_; rintro e w' ⟨rfl, k, rfl⟩) | (go_at_call 40; refine (fails_any (HK.out.drewN _) 2).mono ?_; rintro e w' ⟨rfl, hr, hfr⟩))
  all_goals
    go_ret
    exact ⟨rfl, hr, ⟨hfr.os, hfr.tape, hfr.output, hfr.size, hfr.block⟩⟩
theorem take_bad {b : Nat} {w : World} (n : Int) (hn : n < 0 ∨ 64 < n) :
    Calls Try.prog 24 #[.pointer (some ⟨b, 0, none⟩), .int .i64 n] w fun e w' => e = .returned (.int .u64 0) ∧ w = w' := by
  go_enter Try.func24, Try.ntmps24
  go_wp2_with (go_at_call 41; refine (good_no _ _ hn).mono ?_; rintro e w' ⟨rfl, rfl⟩)
  all_goals
    go_ret
    exact ⟨rfl, rfl⟩
theorem take_err {b f : Nat} {D : Nat → Int} {s : St} {fo : Option Addr} {cap : Nat} {w : World} (h : Rd w b f D s fo cap) (hE : s.E ≠ 0) (n : Int) (hn : 0 ≤ n) (hn' : n ≤ 64) :
    Calls Try.prog 24 #[.pointer (some ⟨b, 0, none⟩), .int .i64 n] w fun e w' => e = .returned (.int .u64 0) ∧ w = w' := by
  go_enter Try.func24, Try.ntmps24
  go_wp2_with (first | (go_at_call 41; refine (good_yes _ _ hn hn').mono ?_; rintro e w' ⟨rfl, rfl⟩) | (go_at_call 36; refine (ready_err h hE _).mono ?_; rintro e w' ⟨rfl, rfl⟩))
  all_goals
    go_ret
    exact ⟨rfl, rfl⟩
theorem take_short {b f : Nat} {D : Nat → Int} {s : St} {fo : Option Addr} {cap : Nat} {w : World} (h : Rd w b f D s fo cap) (ha : s.a ≤ 8 * s.m) (hm : s.m ≤ 1000) (hE : s.E = 0) (n : Int) (hn0 : 0 ≤ n) (hn' : n ≤ 64) (hn : 8 * s.m - s.a < n) :
    Calls Try.prog 24 #[.pointer (some ⟨b, 0, none⟩), .int .i64 n] w fun e w' => e = .returned (.int .u64 0) ∧ Rd w' b f D ⟨0, 0, 2⟩ none 0 ∧ Fr b w w' := by
  go_enter Try.func24, Try.ntmps24
  go_wp2_with (first | (go_at_call 41; refine (good_yes _ _ hn0 hn').mono ?_; rintro e w' ⟨rfl, rfl⟩) | (go_at_call 36; refine (ready_short h ha hm hE _ hn).mono ?_; rintro e w' ⟨rfl, hr, hfr⟩))
  all_goals
    go_ret
    exact ⟨rfl, hr, hfr⟩
set_option maxRecDepth 100000 in
theorem take_ok {b f : Nat} {D : Nat → Int} {s : St} {fo : Option Addr} {cap : Nat} {w : World} (h : Rd w b f D s fo cap) (hm : s.m ≤ 1000) (hE : s.E = 0) (hfb : f ≠ b) (hD : ∀ j, j < s.m → 0 ≤ D j ∧ D j ≤ 255) (n : Nat) (hn' : n ≤ 64) (hn : s.a + n ≤ 8 * s.m) :
    Calls Try.prog 24 #[.pointer (some ⟨b, 0, none⟩), .int .i64 n] w fun e w' => e = .returned (.int .u64 (num D s.a n)) ∧ Rd w' b f D ⟨s.m, s.a + n, s.E⟩ fo cap ∧ Fr b w w' := by
  have HD := Lib.hid hD
  clear hD
  go_enter Try.func24, Try.ntmps24
  go_wp2_with (first | (go_at_call 41; refine (good_yes _ _ (by omega) (by omega)).mono ?_; rintro e w' ⟨rfl, rfl⟩) | (go_at_call 36; refine (ready_yes h (by omega) hm hE _ (by omega)).mono ?_; rintro e w' ⟨rfl, q, rfl⟩))
  go_loopw [5, 16] (fun v i wr => ∃ k : Nat, k ≤ n ∧ i = .int .i64 k ∧ v = .int .u64 (num D s.a k) ∧ Rd wr b f D ⟨s.m, s.a + k, s.E⟩ fo cap ∧ Fr b w wr) (fun _ i _ => n - (intOf i).toNat)
  case atStart => exact ⟨0, Nat.zero_le _, rfl, rfl, h.drewN _, (Fr.refl _ _).drewN _⟩
  case round =>
    obtain ⟨k, hk, rfl, rfl, hr, hfr⟩ := hrel
    by_cases hlt : k < n
    · go_wp2_with fail
      have hb : s.a + k < 8 * s.m := by omega
      refine (bit_any hr hb hm hfb (HD.out _ (by show (s.a + k) / 8 < s.m; omega))).mono ?_
      rintro e w' ⟨rfl, hr', hfr'⟩
      go_wp2_with fail
      go_roundw
      case rel => exact ⟨k + 1, by omega, by go_num, rfl, hr', hfr.trans hfr'⟩
      case measure => simp [intOf]; omega
    · go_wp2_with fail
      have hkn : k = n := by omega
      subst hkn
      go_ret
      exact ⟨rfl, hr, hfr⟩
end Go.Proofs.Ytgeaklemlnmnpaa.BW
