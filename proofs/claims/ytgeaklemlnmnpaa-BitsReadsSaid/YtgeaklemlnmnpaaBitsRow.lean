/- BitsReads: for every slice of bytes and every list of fields the law returns true. No further condition. -/
import Derived.Test.YtgeaklemlnmnpaaBw8
import Derived.ProofKit
import Derived.OpenShut
import Derived.ShutString
import Derived.ChangeOld
import Derived.Below
import Derived.Deep.SlicePairs
namespace Go.Proofs.Ytgeaklemlnmnpaa.BitsRow
open Go.ChangeShapes Go.WideShapes Go.ChangeAt Go.RowKit Go.Deep
set_option linter.unusedVariables false

theorem own : ownKnob Try.prog.godebug = none := by kernel_rfl
theorem laidOut : laidOutB Try.prog = true := by kernel_rfl
theorem cells44 : Try.prog.cellsOf 44 = 5 := by kernel_rfl
theorem cells42 : Try.prog.cellsOf 42 = 1 := by kernel_rfl
theorem cells3 : Try.prog.cellsOf 3 = 1 := by kernel_rfl
theorem cells4 : Try.prog.cellsOf 4 = 1 := by kernel_rfl
theorem cells5 : Try.prog.cellsOf 5 = 1 := by kernel_rfl
theorem cells35 : Try.prog.cellsOf 35 = 1 := by kernel_rfl

theorem wf_u8 {n : Int} (h : (Lit.int .u8 n).wf = true) : 0 ≤ n ∧ n ≤ 255 := by
  simp only [Lit.wf, IntKind.min, IntKind.max, IntKind.signed, IntKind.bits, Bool.and_eq_true, decide_eq_true_eq, Bool.false_eq_true, if_false] at h
  omega

section
variable {H : Type} {enc : TypeId × Value → H} {P : Program} {w : World} {base : Nat} {spare : Nat → Bool} {held : Bool}
/-- A slice of structs of five fields of one cell each, opened at every index. -/
theorem open_slice_fives {t e : TypeId} {f0 f1 f2 f3 f4 : Field} {fuel : Nat} {cs : List Value} {x : DataW H × List MemPlace} (ht : P.underlying t = some (.slice e)) (he : P.underlying e = some (.struct #[f0, f1, f2, f3, f4]))
    (ce : P.cellsOf e = 5) (o0 : f0.offset = 0) (o1 : f1.offset = 1) (o2 : f2.offset = 2) (o3 : f3.offset = 3) (o4 : f4.offset = 4)
    (c0 : P.cellsOf f0.type = 1) (c1 : P.cellsOf f1.type = 1) (c2 : P.cellsOf f2.type = 1) (c3 : P.cellsOf f3.type = 1) (c4 : P.cellsOf f4.type = 1)
    (h : DataW.trod enc P w base spare held fuel t cs = some x) :
    cs = [.slice none 0 0] ∨
    ∃ (a : Addr) (len cap m : Nat), cs = [.slice (some a) len cap] ∧ len ≤ m ∧ cap ≤ maxLen ∧ len ≤ cap ∧
      ∀ i, i < m → ∃ (v0 v1 v2 v3 v4 : Value) (y0 y1 y2 y3 y4 : DataW H × List MemPlace) (n : Nat), w.cell? (a.add (i * 5)) = some v0 ∧ w.cell? (a.add (i * 5 + 1)) = some v1 ∧ w.cell? (a.add (i * 5 + 2)) = some v2 ∧ w.cell? (a.add (i * 5 + 3)) = some v3 ∧ w.cell? (a.add (i * 5 + 4)) = some v4 ∧
        DataW.trod enc P w base spare held n f0.type [v0] = some y0 ∧ DataW.trod enc P w base spare held n f1.type [v1] = some y1 ∧ DataW.trod enc P w base spare held n f2.type [v2] = some y2 ∧ DataW.trod enc P w base spare held n f3.type [v3] = some y3 ∧ DataW.trod enc P w base spare held n f4.type [v4] = some y4 := by
  rcases open_slice ht h with h0 | ⟨a, len, cap, m, n, D, Pl, rfl, hb, hl, hm, hmm, rfl, hx⟩
  · exact Or.inl h0.1
  right
  refine ⟨a, len, cap, m, rfl, by rw [hmm]; split <;> omega, hm, hl, fun i hi => ?_⟩
  obtain ⟨cs', h1, h2⟩ := hx i hi
  rw [ce] at h1
  obtain ⟨_, hlen, hcell⟩ := World.cells?_some h1
  obtain ⟨xs, k, hk, hxy, _, hxl, hf⟩ := DataW.trod_struct he h2
  match xs, hxl, cs', hlen with
  | [y0, y1, y2, y3, y4], _, [v0, v1, v2, v3, v4], _ =>
    have g0 := hf 0 f0 rfl
    have g1 := hf 1 f1 rfl
    have g2 := hf 2 f2 rfl
    have g3 := hf 3 f3 rfl
    have g4 := hf 4 f4 rfl
    simp [o0, o1, o2, o3, o4, c0, c1, c2, c3, c4] at g0 g1 g2 g3 g4
    have e0 := hcell 0 (by omega)
    have e1 := hcell 1 (by omega)
    have e2 := hcell 2 (by omega)
    have e3 := hcell 3 (by omega)
    have e4 := hcell 4 (by omega)
    rw [add_add] at e0 e1 e2 e3 e4
    exact ⟨v0, v1, v2, v3, v4, y0, y1, y2, y3, y4, k, by simpa using e0, by simpa using e1, by simpa using e2, by simpa using e3, by simpa using e4, g0, g1, g2, g3, g4⟩
end

set_option maxRecDepth 100000 in
theorem lifted (os : Os) (started : os.Started) (H : Type) (enc : TypeId × Value → H) :
    ReturnsInHanded {} Try.checked os 4 .any (Rows.bitsReadsSpec.pre6 enc Try.prog Try.f4 Rows.bitsReadsRow.domain false) (Rows.bitsReadsSpec.post enc Try.prog Try.f4 false true false false) := by
  refine returnsInHanded_of_change (C := Try.checked) own started (by kernel_rfl) Try.func4
    (ChangeSpec.witness6 (enc := enc) (C := Try.checked) false ⟨#[], #[.slice none 0 0, .slice none 0 0], []⟩ 8 (by kernel_rfl) (by kernel_rfl) (by kernel_rfl) (by kernel_rfl)) ?_
  intro W base args ds gs before hval0 hW hcnd _
  have hval : ∀ (j : Nat) t v, Try.f4.params[j]? = some t → args[j]? = some v → Value.okWide Try.prog W .any base t v := hval0
  have hW' := hW
  obtain ⟨p, q, hA0, hV, rfl, hfz, hnd⟩ := hW
  have hA : DataW.TrodAll enc Try.prog W 0 (fun _ => true) true Try.f4.params.toList args.toList ds p := hA0
  rw [Try.params4] at hA hval
  obtain ⟨v0, vs0, d0, ds0, p0, q0, hargs, rfl, rfl, h0, r0⟩ := trodAll_cons hA
  obtain ⟨v1, vs1, d1, ds1, p1, q1, hargs1, rfl, rfl, h1, r1⟩ := trodAll_cons r0
  obtain ⟨rfl, rfl, rfl⟩ := trodAll_nil r1
  subst hargs1
  obtain rfl : args = #[v0, v1] := by cases args; simp_all
  obtain ⟨rfl, rfl⟩ := trodVars_none hV
  obtain ⟨a0, len0, cap0, rfl⟩ := okWide_slice Try.underlying35 (hval 0 35 v0 rfl rfl)
  obtain ⟨a1, len1, cap1, rfl⟩ := okWide_slice Try.underlying36 (hval 1 36 v1 rfl rfl)
  have k0 := h0
  have k1 := h1
  have lt0 : ∀ x ∈ p0, x.block < W.heap.size := by obtain ⟨m, hm⟩ := k0; exact DataW.trod_lt m _ _ _ hm
  have lt1 : ∀ x ∈ p1, x.block < W.heap.size := by obtain ⟨m, hm⟩ := k1; exact DataW.trod_lt m _ _ _ hm
  have hb : ∃ D, BW.Bs W a0 len0 D ∧ (a0 = none → len0 = 0 ∧ cap0 = 0) ∧ (0 < len0 → ∀ ad, a0 = some ad → ad.block < W.heap.size) ∧ len0 ≤ 9223372036854775807 := by
    obtain ⟨fuel, hf⟩ := h0
    rcases open_slice1 Try.underlying35 cells5 hf with ⟨hcs, _⟩ | ⟨a, l, c, m, n, V, D, P, hcs, _, hl, hm, hmm, _, hx⟩
    · simp [Value.cells] at hcs
      obtain ⟨rfl, rfl, rfl⟩ := hcs
      exact ⟨fun _ => 0, ⟨fun j hj => absurd hj (Nat.not_lt_zero j)⟩, fun _ => ⟨rfl, rfl⟩, fun h => absurd h (Nat.lt_irrefl 0), by omega⟩
    · simp [Value.cells] at hcs
      obtain ⟨rfl, rfl, rfl⟩ := hcs
      have hlm : len0 ≤ m := by rw [hmm]; split <;> omega
      have hi : ∀ i, i < len0 → ∃ z : Int, W.cell? (a.add i) = some (.int .u8 z) ∧ 0 ≤ z ∧ z ≤ 255 := by
        intro i hi
        obtain ⟨e0, t0⟩ := hx i (by omega)
        obtain ⟨x, hx0, _, wx⟩ := DataW.trod_int Try.underlying5 t0
        simp at hx0
        exact ⟨x, by rw [e0, hx0], wf_u8 wx⟩
      obtain ⟨z, hz⟩ := choose_lt hi
      have hblk : 0 < len0 → a.block < W.heap.size ∧ a.spot = none := fun h => by
        have hc := (hz 0 h).1
        have ha : a.add 0 = a := by simp [Addr.add]
        rw [ha] at hc
        exact ⟨World.block_lt_of_cell? W _ hc, World.cell?_spot hc⟩
      exact ⟨z, ⟨fun j hj => ⟨a, rfl, (hblk (by omega)).1, (hblk (by omega)).2, (hz j hj).1, (hz j hj).2⟩⟩, (fun e => by cases e), (fun h ad e => by injection e with e; subst e; exact (hblk h).1), by unfold maxLen at hm; omega⟩
  have hf : ∃ N V T E, BW.Fs W a1 len1 N V T E ∧ len1 ≤ 9223372036854775807 := by
    obtain ⟨fuel, hf⟩ := h1
    rcases open_slice_fives Try.underlying36 Try.underlying44 cells44 rfl rfl rfl rfl rfl cells42 cells3 cells4 cells4 cells35 hf with hcs | ⟨a, l, c, m, hcs, hlm, hm, hlc, hx⟩
    · simp [Value.cells] at hcs
      obtain ⟨rfl, rfl, rfl⟩ := hcs
      exact ⟨fun _ => 0, fun _ => 0, fun _ => false, fun _ => false, ⟨fun j hj => absurd hj (Nat.not_lt_zero j)⟩, by omega⟩
    · simp [Value.cells] at hcs
      obtain ⟨rfl, rfl, rfl⟩ := hcs
      have hi : ∀ i, i < len1 → ∃ z : Int × Int × Bool × Bool, ∃ A n c, W.cell? (a.add (i * 5)) = some (.int .u64 z.1) ∧ W.cell? (a.add (i * 5 + 1)) = some (.int .i64 z.2.1) ∧ W.cell? (a.add (i * 5 + 2)) = some (.bool z.2.2.1) ∧ W.cell? (a.add (i * 5 + 3)) = some (.bool z.2.2.2) ∧ W.cell? (a.add (i * 5 + 4)) = some (.slice A n c) := by
        intro i hi
        obtain ⟨v0, v1, v2, v3, v4, y0, y1, y2, y3, y4, n, e0, e1, e2, e3, e4, t0, t1, t2, t3, t4⟩ := hx i (by omega)
        obtain ⟨x0, hx0, _, _⟩ := DataW.trod_int Try.underlying42 t0
        obtain ⟨x1, hx1, _, _⟩ := DataW.trod_int Try.underlying3 t1
        obtain ⟨x2, hx2, _⟩ := DataW.trod_bool Try.underlying4 t2
        obtain ⟨x3, hx3, _⟩ := DataW.trod_bool Try.underlying4 t3
        simp at hx0 hx1 hx2 hx3
        have h4 : ∃ A n c, v4 = .slice A n c := by
          rcases open_slice1 Try.underlying35 cells5 t4 with ⟨hcs, _⟩ | ⟨b, l, c, _, _, _, _, _, hcs, _⟩
          · simp at hcs; exact ⟨_, _, _, hcs⟩
          · simp at hcs; exact ⟨_, _, _, hcs⟩
        obtain ⟨A, n4, c4, h4⟩ := h4
        exact ⟨(x0, x1, x2, x3), A, n4, c4, by rw [e0, hx0], by rw [e1, hx1], by rw [e2, hx2], by rw [e3, hx3], by rw [e4, h4]⟩
      obtain ⟨z, hz⟩ := choose_lt hi
      refine ⟨fun i => (z i).1, fun i => (z i).2.1, fun i => (z i).2.2.1, fun i => (z i).2.2.2, ⟨fun j hj => ?_⟩, by unfold maxLen at hm; omega⟩
      obtain ⟨A, n4, c4, e0, e1, e2, e3, e4⟩ := hz j hj
      obtain ⟨b, off, spot⟩ := a
      obtain ⟨_, _, _, q0, _⟩ := hz 0 (by omega)
      have hs := World.cell?_spot q0
      have hlt := World.block_lt_of_cell? W _ e0
      rw [BW.plus_block] at hlt
      have hspot : spot = none := by
        simpa [Addr.add] using hs
      subst hspot
      rw [BW.plus_plain] at e0 e1 e2 e3 e4
      exact ⟨b, off, A, n4, c4, rfl, hlt, e0, e1, e2, e3, e4⟩
  obtain ⟨D, hBs, hN, hB, hl0⟩ := hb
  obtain ⟨N, V, T, E, hFs, hl1⟩ := hf
  have hw : Calls Try.prog 4 #[.slice a0 len0 cap0, .slice a1 len1 cap1] W fun e w' => BW.LawP W e w' := BW.law_any hBs hB hN hFs hl1 hl0
  clear hA0 hval0
  refine hw.mono fun e W' ⟨he, bel⟩ => ?_
  subst he
  exact ⟨_, rfl, _, _, _, [], _, [], hW', trodAll_mk1 (shut_bool Try.underlying4 _), (trodAll_cons_mk (Below.trod laidOut (by kernel_rfl) (of_decide_eq_true (by kernel_rfl)) k0 bel lt0) (trodAll_cons_mk (Below.trod laidOut (by kernel_rfl) (of_decide_eq_true (by kernel_rfl)) k1 bel lt1) trodAll_mk0)), rfl, bel.frame _, fun h => by cases h⟩

theorem over : Rows.bitsReadsRow.holds Try.pinned (OpenSpec.ofChange Rows.bitsReadsSpec) :=
  OpenClaim.holds_of_wide 4 Try.f4 rfl rfl rfl rfl rfl rfl rfl ⟨rfl, rfl, rfl, rfl, rfl⟩ rfl rfl rfl rfl rfl (by kernel_rfl) Try.func4 (by kernel_rfl)
    (of_decide_eq_true (by kernel_rfl)) (by unfold Func.isWrapper; first | (rw [if_pos (by decide +kernel)]; kernel_rfl) | (rw [if_neg (by decide +kernel)]; exact ⟨rfl, rfl⟩))
    (fun os started H enc _ => lifted os started H enc)

theorem proved : Rows.BitsReadsSaid := over
end Go.Proofs.Ytgeaklemlnmnpaa.BitsRow
theorem Go.Proofs.Ytgeaklemlnmnpaa.bitsReads_holds : Go.Proofs.Ytgeaklemlnmnpaa.Rows.BitsReadsSaid := Go.Proofs.Ytgeaklemlnmnpaa.BitsRow.proved
#print axioms Go.Proofs.Ytgeaklemlnmnpaa.bitsReads_holds
