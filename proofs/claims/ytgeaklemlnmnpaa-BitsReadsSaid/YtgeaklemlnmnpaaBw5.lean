/- The law's awake: three numbers put, the bytes and the bits that come of them. -/
import Derived.Test.YtgeaklemlnmnpaaBw4
set_option linter.unusedVariables false
namespace Go.Proofs.Ytgeaklemlnmnpaa.BW
open Go.RowKit
def u8s (L : List Int) : List Value := L.map fun x => .int .u8 x
/-- The writer at block b: n bits, its bytes L owned, from block B on. -/
structure Wr (w : World) (b B : Nat) (v : Value) (n : Int) (L : List Int) : Prop where
  c0 : w.cell? ⟨b, 0, none⟩ = some v
  c1 : w.cell? ⟨b, 1, none⟩ = some (.int .i64 n)
  f0 : w.frozen? ⟨b, 0, none⟩ = false
  f1 : w.frozen? ⟨b, 1, none⟩ = false
  own : w.ownsRow B 5 1 v L.length (u8s L)
  lt : b < B
  le : B ≤ w.heap.size
theorem wr_append {w w2 : World} {o : Obj} {b B : Nat} {n : Int} {v v' : Value} {L : List Int} {x : Int} (h : Wr w b B v n L) (hg : (w.alloc o).grownBy w2 v.ownBlock) (hown : w2.ownsRow B 5 1 v' (L.length + 1) (u8s L ++ [.int .u8 x])) :
    Wr (w2.setCell ⟨b, 0, none⟩ v') b B v' n (L ++ [x]) ∧ Below b w (w2.setCell ⟨b, 0, none⟩ v') := by
  have hl := h.lt
  have hle := h.le
  have hbel : Below B w w2 := ((Below.refl _ _).alloc hle _).grown hg (by simp; omega) (own_row h.own)
  have q0 := (hbel.cell (p := ⟨b, 0, none⟩) hl).trans h.c0
  refine ⟨⟨World.cell?_setCell_same _ _ _ q0, (World.cell?_setCell_other _ _ _ _ (ne_off b 0 1 (by decide))).trans ((hbel.cell (p := ⟨b, 1, none⟩) hl).trans h.c1), by simp [hbel.frozen (p := ⟨b, 0, none⟩) hl, h.f0], by simp [hbel.frozen (p := ⟨b, 1, none⟩) hl, h.f1], ?_, hl, by have := hbel.size; simp; omega⟩, (hbel.mono (B' := b) (by omega)).setCell (p := ⟨b, 0, none⟩) (Nat.le_refl _) _⟩
  have := own_fr hown ((Fr.refl b w2).set 0 v') hl
  simpa [u8s] using this
theorem own_slice1 {w : World} {B n : Nat} {e : TypeId} {v : Value} {xs : List Value} (h : w.ownsRow B e 1 v n xs) (hn : 0 < n) : ∃ f cap, v = .slice (some ⟨f, 0, none⟩) n cap ∧ B ≤ f ∧ (∀ j, j < n → w.cell? ⟨f, j, none⟩ = xs[j]?) ∧ ∀ j, w.frozen? ⟨f, j, none⟩ = false := by
  rcases h.2 with ⟨rfl, h0⟩ | ⟨g, cap, cur, rfl, hb, hg, hnc, _⟩
  · omega
  · exact ⟨g, cap, rfl, hb, fun j hj => h.cellAt j (by omega), fun j => h.frozenAt j⟩
/-- What a Put comes to. -/
def PutP (w : World) (b B : Nat) (n : Int) (L : List Int) (e : Ending) (w' : World) : Prop := e = .returned (.tuple #[]) ∧ ∃ v', Wr w' b B v' n L ∧ Below b w w'
theorem wr_store {w0 w : World} {b B g cap len : Nat} {n : Int} {L : List Int} (h : Wr w b B (.slice (some ⟨g, 0, none⟩) len cap) n L) (hb : Below b w0 w) (hg : B ≤ g) (j : Nat) (x : Int) (n' : Int) {y : Int} (hx : x = y) (L' : List Int) (hL : L' = L.set j y) :
    Wr ((w.setCell ⟨g, j, none⟩ (.int .u8 x)).setCell ⟨b, 1, none⟩ (.int .i64 n')).drew.drew b B (.slice (some ⟨g, 0, none⟩) len cap) n' L' ∧ Below b w0 ((w.setCell ⟨g, j, none⟩ (.int .u8 x)).setCell ⟨b, 1, none⟩ (.int .i64 n')).drew.drew := by
  subst hx
  subst hL
  have hl := h.lt
  have hle := h.le
  have ho := h.own
  have hlen : len = L.length := by
    rcases ho.2 with ⟨e, _⟩ | ⟨g', cap', cur, e, _⟩
    · cases e
    · injection e
  subst hlen
  have hne : b ≠ g := by omega
  refine ⟨⟨?_, ?_, by simp [h.f0], by simp [h.f1], ?_, hl, by simp; omega⟩, ((hb.setCell (p := ⟨g, j, none⟩) (by show b ≤ g; omega) _).setCell (p := ⟨b, 1, none⟩) (Nat.le_refl _) _).drew.drew⟩
  · show (World.setCell _ _ _).cell? _ = _
    rw [World.cell?_setCell_other _ _ _ _ (ne_off b 1 0 (by decide)), World.cell?_setCell_other _ _ _ _ (ne_blk g b j 0 (fun e => hne e.symm))]
    exact h.c0
  · show (World.setCell _ _ _).cell? _ = _
    exact World.cell?_setCell_same _ _ _ ((World.cell?_setCell_other _ _ _ _ (ne_blk g b j 1 (fun e => hne e.symm))).trans h.c1)
  · have h1 := (ho.stored j (.int .u8 x)).1
    have h2 := own_fr h1 ((Fr.refl b _).set 1 (.int .i64 n')) hl
    have e : u8s (L.set j x) = (u8s L).set j (.int .u8 x) := by simp [u8s, List.map_set]
    rw [e, List.length_set]
    exact h2.drew.drew
set_option maxRecDepth 100000 in
set_option maxHeartbeats 1600000 in
theorem put_5_3 {b B : Nat} {v : Value} {w : World} (h : Wr w b B v 0 []) :
    Calls Try.prog 32 #[.pointer (some ⟨b, 0, none⟩), .int .u64 5, .int .i64 3] w fun e w' => PutP w b B 3 [160] e w' := by
  obtain ⟨i0, hi, hz0, hz1, hz2⟩ := info_parts info5
  go_enter Try.func32, Try.ntmps32
  go_wp2_with (go_at_call 41; refine (good_yes _ _ (by omega) (by omega)).mono ?_; rintro e w' ⟨rfl, rfl⟩)
  go_loopw [6] (fun i wr => (i = .int .i64 3 ∧ ∃ v', Wr wr b B v' 0 [] ∧ Below b w wr) ∨ (i = .int .i64 0 ∧ ∃ v', Wr wr b B v' 3 [160] ∧ Below b w wr)) (fun i _ => (intOf i).toNat)
  case atStart => exact .inl ⟨rfl, v, h, Below.refl _ _⟩
  case round =>
    rcases hrel with ⟨rfl, v', hr, hbel⟩ | ⟨rfl, v', hr, hbel⟩
    · obtain ⟨h0, h1, f0, f1, hown, hlt, hle⟩ := id hr
      go_wp2_with (at_builtin; refine wpList_append_own _ rfl _ _ 35 rfl B 5 i0 (.int .u8 0) 1 1 Try.underlying35 hi hz0 hz1 hz2 rfl (by decide) _ _ _ rfl (hown.alloc _) ⟨wr.heap.size, 0, none⟩ 1 1 [.int .u8 0] rfl rfl ?c01 ?c02 ?c03 ?c04 ?c05 ?_)
      case c01 =>
        intro j u hj
        match j, hj with
        | 0, hj => simp at hj; subst hj; simp [Addr.add]
      case c02 => intro u hu; simp at hu; subst hu; rfl
      case c03 => unfold maxLen; simp
      case c04 => simp
      case c05 => simp; omega
      · intro v2 w2 hown2 hgrow _
        have hown2 : w2.ownsRow B 5 1 v2 1 [.int .u8 0] := hown2
        obtain ⟨hr2, hbel2⟩ := wr_append (x := 0) hr hgrow hown2
        obtain ⟨g, cap, rfl, hgB, hc, hfz⟩ := own_slice1 hown2 (by omega)
        have hbel3 : Below B wr w2 := ((Below.refl _ _).alloc hle _).grown hgrow (by simp; omega) (own_row hown)
        have q0 : w2.cell? ⟨b, 0, none⟩ = some v' := (hbel3.cell (p := ⟨b, 0, none⟩) hlt).trans h0
        have q1 : w2.frozen? ⟨b, 0, none⟩ = false := (hbel3.frozen (p := ⟨b, 0, none⟩) hlt).trans f0
        have k0 := hr2.c0
        have k1 := hr2.c1
        have k2 := hr2.f0
        have k3 := hr2.f1
        have k4 := (own_fr hown2 ((Fr.refl b w2).set 0 (.slice (some ⟨g, 0, none⟩) 1 cap)) hlt).cellAt 0 (by omega)
        have k5 := (own_fr hown2 ((Fr.refl b w2).set 0 (.slice (some ⟨g, 0, none⟩) 1 cap)) hlt).frozenAt 0
        simp only [List.getElem?_cons_zero] at k4
        have HR := Lib.hid hr2
        have HB := Lib.hid (hbel.trans hbel2)
        clear hgrow hown2 hown h0 h1 f0 f1 hr hc hfz hr2 hbel3 hbel hbel2
        go_wp2_with fail
        go_region
        go_wp2_with fail
        go_region
        go_wp2_with fail
        go_roundw
        case rel => exact .inr (⟨rfl, _, (wr_store HR.out HB.out hgB 0 _ 3 (by decide) [160] rfl).1, (wr_store HR.out HB.out hgB 0 _ 3 (by decide) [160] rfl).2⟩)
        case measure => simp [intOf]
    · go_wp2_with fail
      exact end_none (.inl rfl) rfl rfl ⟨rfl, v', hr, hbel⟩
set_option maxRecDepth 100000 in
set_option maxHeartbeats 1600000 in
theorem put_1_2 {b B : Nat} {v : Value} {w : World} (h : Wr w b B v 3 [160]) :
    Calls Try.prog 32 #[.pointer (some ⟨b, 0, none⟩), .int .u64 1, .int .i64 2] w fun e w' => PutP w b B 5 [168] e w' := by
  obtain ⟨i0, hi, hz0, hz1, hz2⟩ := info_parts info5
  go_enter Try.func32, Try.ntmps32
  go_wp2_with (go_at_call 41; refine (good_yes _ _ (by omega) (by omega)).mono ?_; rintro e w' ⟨rfl, rfl⟩)
  go_loopw [6] (fun i wr => (i = .int .i64 2 ∧ ∃ v', Wr wr b B v' 3 [160] ∧ Below b w wr) ∨ (i = .int .i64 0 ∧ ∃ v', Wr wr b B v' 5 [168] ∧ Below b w wr)) (fun i _ => (intOf i).toNat)
  case atStart => exact .inl ⟨rfl, v, h, Below.refl _ _⟩
  case round =>
    rcases hrel with ⟨rfl, v', hr, hbel⟩ | ⟨rfl, v', hr, hbel⟩
    · obtain ⟨h0, h1, f0, f1, hown, hlt, hle⟩ := id hr
      have hown2 : wr.ownsRow B 5 1 v' 1 [.int .u8 160] := hown
      obtain ⟨g, cap, rfl, hgB, hc, hfz⟩ := own_slice1 hown2 (by omega)
      have k4 := hc 0 (by omega)
      have k5 := hfz 0
      simp only [List.getElem?_cons_zero] at k4
      have HR := Lib.hid hr
      have HB := Lib.hid hbel
      clear hown2 hown hr hc hfz hbel
      go_wp2_with fail
      go_region
      go_wp2_with fail
      go_region
      go_wp2_with fail
      go_roundw
      case rel => exact .inr (⟨rfl, _, (wr_store HR.out HB.out hgB 0 _ 5 (by decide) [168] rfl).1, (wr_store HR.out HB.out hgB 0 _ 5 (by decide) [168] rfl).2⟩)
      case measure => simp [intOf]
    · go_wp2_with fail
      exact end_none (.inl rfl) rfl rfl ⟨rfl, v', hr, hbel⟩
set_option maxRecDepth 100000 in
set_option maxHeartbeats 1600000 in
theorem put_258_40 {b B : Nat} {v : Value} {w : World} (h : Wr w b B v 5 [168]) :
    Calls Try.prog 32 #[.pointer (some ⟨b, 0, none⟩), .int .u64 258, .int .i64 40] w fun e w' => PutP w b B 45 [168, 0, 0, 0, 8, 16] e w' := by
  obtain ⟨i0, hi, hz0, hz1, hz2⟩ := info_parts info5
  go_enter Try.func32, Try.ntmps32
  go_wp2_with (go_at_call 41; refine (good_yes _ _ (by omega) (by omega)).mono ?_; rintro e w' ⟨rfl, rfl⟩)
  go_loopw [6] (fun i wr => (i = .int .i64 40 ∧ ∃ v', Wr wr b B v' 5 [168] ∧ Below b w wr) ∨ (i = .int .i64 37 ∧ ∃ v', Wr wr b B v' 8 [168] ∧ Below b w wr) ∨ (i = .int .i64 29 ∧ ∃ v', Wr wr b B v' 16 [168, 0] ∧ Below b w wr) ∨ (i = .int .i64 21 ∧ ∃ v', Wr wr b B v' 24 [168, 0, 0] ∧ Below b w wr) ∨ (i = .int .i64 13 ∧ ∃ v', Wr wr b B v' 32 [168, 0, 0, 0] ∧ Below b w wr) ∨ (i = .int .i64 5 ∧ ∃ v', Wr wr b B v' 40 [168, 0, 0, 0, 8] ∧ Below b w wr) ∨ (i = .int .i64 0 ∧ ∃ v', Wr wr b B v' 45 [168, 0, 0, 0, 8, 16] ∧ Below b w wr)) (fun i _ => (intOf i).toNat)
  case atStart => exact .inl ⟨rfl, v, h, Below.refl _ _⟩
  case round =>
    rcases hrel with ⟨rfl, v', hr, hbel⟩ | ⟨rfl, v', hr, hbel⟩ | ⟨rfl, v', hr, hbel⟩ | ⟨rfl, v', hr, hbel⟩ | ⟨rfl, v', hr, hbel⟩ | ⟨rfl, v', hr, hbel⟩ | ⟨rfl, v', hr, hbel⟩
    · obtain ⟨h0, h1, f0, f1, hown, hlt, hle⟩ := id hr
      have hown2 : wr.ownsRow B 5 1 v' 1 [.int .u8 168] := hown
      obtain ⟨g, cap, rfl, hgB, hc, hfz⟩ := own_slice1 hown2 (by omega)
      have k4 := hc 0 (by omega)
      have k5 := hfz 0
      simp only [List.getElem?_cons_zero] at k4
      have HR := Lib.hid hr
      have HB := Lib.hid hbel
      clear hown2 hown hr hc hfz hbel
      go_wp2_with fail
      go_region
      go_wp2_with fail
      go_region
      go_wp2_with fail
      go_roundw
      case rel => exact .inr (.inl ⟨rfl, _, (wr_store HR.out HB.out hgB 0 _ 8 (by decide) [168] rfl).1, (wr_store HR.out HB.out hgB 0 _ 8 (by decide) [168] rfl).2⟩)
      case measure => simp [intOf]
    · obtain ⟨h0, h1, f0, f1, hown, hlt, hle⟩ := id hr
      go_wp2_with (at_builtin; refine wpList_append_own _ rfl _ _ 35 rfl B 5 i0 (.int .u8 0) 1 1 Try.underlying35 hi hz0 hz1 hz2 rfl (by decide) _ _ _ rfl (hown.alloc _) ⟨wr.heap.size, 0, none⟩ 1 1 [.int .u8 0] rfl rfl ?c11 ?c12 ?c13 ?c14 ?c15 ?_)
      case c11 =>
        intro j u hj
        match j, hj with
        | 0, hj => simp at hj; subst hj; simp [Addr.add]
      case c12 => intro u hu; simp at hu; subst hu; rfl
      case c13 => unfold maxLen; simp
      case c14 => simp
      case c15 => simp; omega
      · intro v2 w2 hown2 hgrow _
        have hown2 : w2.ownsRow B 5 1 v2 2 [.int .u8 168, .int .u8 0] := hown2
        obtain ⟨hr2, hbel2⟩ := wr_append (x := 0) hr hgrow hown2
        obtain ⟨g, cap, rfl, hgB, hc, hfz⟩ := own_slice1 hown2 (by omega)
        have hbel3 : Below B wr w2 := ((Below.refl _ _).alloc hle _).grown hgrow (by simp; omega) (own_row hown)
        have q0 : w2.cell? ⟨b, 0, none⟩ = some v' := (hbel3.cell (p := ⟨b, 0, none⟩) hlt).trans h0
        have q1 : w2.frozen? ⟨b, 0, none⟩ = false := (hbel3.frozen (p := ⟨b, 0, none⟩) hlt).trans f0
        have k0 := hr2.c0
        have k1 := hr2.c1
        have k2 := hr2.f0
        have k3 := hr2.f1
        have k4 := (own_fr hown2 ((Fr.refl b w2).set 0 (.slice (some ⟨g, 0, none⟩) 2 cap)) hlt).cellAt 1 (by omega)
        have k5 := (own_fr hown2 ((Fr.refl b w2).set 0 (.slice (some ⟨g, 0, none⟩) 2 cap)) hlt).frozenAt 1
        simp only [List.getElem?_cons_zero, List.getElem?_cons_succ] at k4
        have HR := Lib.hid hr2
        have HB := Lib.hid (hbel.trans hbel2)
        clear hgrow hown2 hown h0 h1 f0 f1 hr hc hfz hr2 hbel3 hbel hbel2
        go_wp2_with fail
        go_region
        go_wp2_with fail
        go_region
        go_wp2_with fail
        go_roundw
        case rel => exact .inr (.inr (.inl ⟨rfl, _, (wr_store HR.out HB.out hgB 1 _ 16 (by decide) [168, 0] rfl).1, (wr_store HR.out HB.out hgB 1 _ 16 (by decide) [168, 0] rfl).2⟩))
        case measure => simp [intOf]
    · obtain ⟨h0, h1, f0, f1, hown, hlt, hle⟩ := id hr
      go_wp2_with (at_builtin; refine wpList_append_own _ rfl _ _ 35 rfl B 5 i0 (.int .u8 0) 1 1 Try.underlying35 hi hz0 hz1 hz2 rfl (by decide) _ _ _ rfl (hown.alloc _) ⟨wr.heap.size, 0, none⟩ 1 1 [.int .u8 0] rfl rfl ?c21 ?c22 ?c23 ?c24 ?c25 ?_)
      case c21 =>
        intro j u hj
        match j, hj with
        | 0, hj => simp at hj; subst hj; simp [Addr.add]
      case c22 => intro u hu; simp at hu; subst hu; rfl
      case c23 => unfold maxLen; simp
      case c24 => simp
      case c25 => simp; omega
      · intro v2 w2 hown2 hgrow _
        have hown2 : w2.ownsRow B 5 1 v2 3 [.int .u8 168, .int .u8 0, .int .u8 0] := hown2
        obtain ⟨hr2, hbel2⟩ := wr_append (x := 0) hr hgrow hown2
        obtain ⟨g, cap, rfl, hgB, hc, hfz⟩ := own_slice1 hown2 (by omega)
        have hbel3 : Below B wr w2 := ((Below.refl _ _).alloc hle _).grown hgrow (by simp; omega) (own_row hown)
        have q0 : w2.cell? ⟨b, 0, none⟩ = some v' := (hbel3.cell (p := ⟨b, 0, none⟩) hlt).trans h0
        have q1 : w2.frozen? ⟨b, 0, none⟩ = false := (hbel3.frozen (p := ⟨b, 0, none⟩) hlt).trans f0
        have k0 := hr2.c0
        have k1 := hr2.c1
        have k2 := hr2.f0
        have k3 := hr2.f1
        have k4 := (own_fr hown2 ((Fr.refl b w2).set 0 (.slice (some ⟨g, 0, none⟩) 3 cap)) hlt).cellAt 2 (by omega)
        have k5 := (own_fr hown2 ((Fr.refl b w2).set 0 (.slice (some ⟨g, 0, none⟩) 3 cap)) hlt).frozenAt 2
        simp only [List.getElem?_cons_zero, List.getElem?_cons_succ] at k4
        have HR := Lib.hid hr2
        have HB := Lib.hid (hbel.trans hbel2)
        clear hgrow hown2 hown h0 h1 f0 f1 hr hc hfz hr2 hbel3 hbel hbel2
        go_wp2_with fail
        go_region
        go_wp2_with fail
        go_region
        go_wp2_with fail
        go_roundw
        case rel => exact .inr (.inr (.inr (.inl ⟨rfl, _, (wr_store HR.out HB.out hgB 2 _ 24 (by decide) [168, 0, 0] rfl).1, (wr_store HR.out HB.out hgB 2 _ 24 (by decide) [168, 0, 0] rfl).2⟩)))
        case measure => simp [intOf]
    · obtain ⟨h0, h1, f0, f1, hown, hlt, hle⟩ := id hr
      go_wp2_with (at_builtin; refine wpList_append_own _ rfl _ _ 35 rfl B 5 i0 (.int .u8 0) 1 1 Try.underlying35 hi hz0 hz1 hz2 rfl (by decide) _ _ _ rfl (hown.alloc _) ⟨wr.heap.size, 0, none⟩ 1 1 [.int .u8 0] rfl rfl ?c31 ?c32 ?c33 ?c34 ?c35 ?_)
      case c31 =>
        intro j u hj
        match j, hj with
        | 0, hj => simp at hj; subst hj; simp [Addr.add]
      case c32 => intro u hu; simp at hu; subst hu; rfl
      case c33 => unfold maxLen; simp
      case c34 => simp
      case c35 => simp; omega
      · intro v2 w2 hown2 hgrow _
        have hown2 : w2.ownsRow B 5 1 v2 4 [.int .u8 168, .int .u8 0, .int .u8 0, .int .u8 0] := hown2
        obtain ⟨hr2, hbel2⟩ := wr_append (x := 0) hr hgrow hown2
        obtain ⟨g, cap, rfl, hgB, hc, hfz⟩ := own_slice1 hown2 (by omega)
        have hbel3 : Below B wr w2 := ((Below.refl _ _).alloc hle _).grown hgrow (by simp; omega) (own_row hown)
        have q0 : w2.cell? ⟨b, 0, none⟩ = some v' := (hbel3.cell (p := ⟨b, 0, none⟩) hlt).trans h0
        have q1 : w2.frozen? ⟨b, 0, none⟩ = false := (hbel3.frozen (p := ⟨b, 0, none⟩) hlt).trans f0
        have k0 := hr2.c0
        have k1 := hr2.c1
        have k2 := hr2.f0
        have k3 := hr2.f1
        have k4 := (own_fr hown2 ((Fr.refl b w2).set 0 (.slice (some ⟨g, 0, none⟩) 4 cap)) hlt).cellAt 3 (by omega)
        have k5 := (own_fr hown2 ((Fr.refl b w2).set 0 (.slice (some ⟨g, 0, none⟩) 4 cap)) hlt).frozenAt 3
        simp only [List.getElem?_cons_zero, List.getElem?_cons_succ] at k4
        have HR := Lib.hid hr2
        have HB := Lib.hid (hbel.trans hbel2)
        clear hgrow hown2 hown h0 h1 f0 f1 hr hc hfz hr2 hbel3 hbel hbel2
        go_wp2_with fail
        go_region
        go_wp2_with fail
        go_region
        go_wp2_with fail
        go_roundw
        case rel => exact .inr (.inr (.inr (.inr (.inl ⟨rfl, _, (wr_store HR.out HB.out hgB 3 _ 32 (by decide) [168, 0, 0, 0] rfl).1, (wr_store HR.out HB.out hgB 3 _ 32 (by decide) [168, 0, 0, 0] rfl).2⟩))))
        case measure => simp [intOf]
    · obtain ⟨h0, h1, f0, f1, hown, hlt, hle⟩ := id hr
      go_wp2_with (at_builtin; refine wpList_append_own _ rfl _ _ 35 rfl B 5 i0 (.int .u8 0) 1 1 Try.underlying35 hi hz0 hz1 hz2 rfl (by decide) _ _ _ rfl (hown.alloc _) ⟨wr.heap.size, 0, none⟩ 1 1 [.int .u8 0] rfl rfl ?c41 ?c42 ?c43 ?c44 ?c45 ?_)
      case c41 =>
        intro j u hj
        match j, hj with
        | 0, hj => simp at hj; subst hj; simp [Addr.add]
      case c42 => intro u hu; simp at hu; subst hu; rfl
      case c43 => unfold maxLen; simp
      case c44 => simp
      case c45 => simp; omega
      · intro v2 w2 hown2 hgrow _
        have hown2 : w2.ownsRow B 5 1 v2 5 [.int .u8 168, .int .u8 0, .int .u8 0, .int .u8 0, .int .u8 0] := hown2
        obtain ⟨hr2, hbel2⟩ := wr_append (x := 0) hr hgrow hown2
        obtain ⟨g, cap, rfl, hgB, hc, hfz⟩ := own_slice1 hown2 (by omega)
        have hbel3 : Below B wr w2 := ((Below.refl _ _).alloc hle _).grown hgrow (by simp; omega) (own_row hown)
        have q0 : w2.cell? ⟨b, 0, none⟩ = some v' := (hbel3.cell (p := ⟨b, 0, none⟩) hlt).trans h0
        have q1 : w2.frozen? ⟨b, 0, none⟩ = false := (hbel3.frozen (p := ⟨b, 0, none⟩) hlt).trans f0
        have k0 := hr2.c0
        have k1 := hr2.c1
        have k2 := hr2.f0
        have k3 := hr2.f1
        have k4 := (own_fr hown2 ((Fr.refl b w2).set 0 (.slice (some ⟨g, 0, none⟩) 5 cap)) hlt).cellAt 4 (by omega)
        have k5 := (own_fr hown2 ((Fr.refl b w2).set 0 (.slice (some ⟨g, 0, none⟩) 5 cap)) hlt).frozenAt 4
        simp only [List.getElem?_cons_zero, List.getElem?_cons_succ] at k4
        have HR := Lib.hid hr2
        have HB := Lib.hid (hbel.trans hbel2)
        clear hgrow hown2 hown h0 h1 f0 f1 hr hc hfz hr2 hbel3 hbel hbel2
        go_wp2_with fail
        go_region
        go_wp2_with fail
        go_region
        go_wp2_with fail
        go_roundw
        case rel => exact .inr (.inr (.inr (.inr (.inr (.inl ⟨rfl, _, (wr_store HR.out HB.out hgB 4 _ 40 (by decide) [168, 0, 0, 0, 8] rfl).1, (wr_store HR.out HB.out hgB 4 _ 40 (by decide) [168, 0, 0, 0, 8] rfl).2⟩)))))
        case measure => simp [intOf]
    · obtain ⟨h0, h1, f0, f1, hown, hlt, hle⟩ := id hr
      go_wp2_with (at_builtin; refine wpList_append_own _ rfl _ _ 35 rfl B 5 i0 (.int .u8 0) 1 1 Try.underlying35 hi hz0 hz1 hz2 rfl (by decide) _ _ _ rfl (hown.alloc _) ⟨wr.heap.size, 0, none⟩ 1 1 [.int .u8 0] rfl rfl ?c51 ?c52 ?c53 ?c54 ?c55 ?_)
      case c51 =>
        intro j u hj
        match j, hj with
        | 0, hj => simp at hj; subst hj; simp [Addr.add]
      case c52 => intro u hu; simp at hu; subst hu; rfl
      case c53 => unfold maxLen; simp
      case c54 => simp
      case c55 => simp; omega
      · intro v2 w2 hown2 hgrow _
        have hown2 : w2.ownsRow B 5 1 v2 6 [.int .u8 168, .int .u8 0, .int .u8 0, .int .u8 0, .int .u8 8, .int .u8 0] := hown2
        obtain ⟨hr2, hbel2⟩ := wr_append (x := 0) hr hgrow hown2
        obtain ⟨g, cap, rfl, hgB, hc, hfz⟩ := own_slice1 hown2 (by omega)
        have hbel3 : Below B wr w2 := ((Below.refl _ _).alloc hle _).grown hgrow (by simp; omega) (own_row hown)
        have q0 : w2.cell? ⟨b, 0, none⟩ = some v' := (hbel3.cell (p := ⟨b, 0, none⟩) hlt).trans h0
        have q1 : w2.frozen? ⟨b, 0, none⟩ = false := (hbel3.frozen (p := ⟨b, 0, none⟩) hlt).trans f0
        have k0 := hr2.c0
        have k1 := hr2.c1
        have k2 := hr2.f0
        have k3 := hr2.f1
        have k4 := (own_fr hown2 ((Fr.refl b w2).set 0 (.slice (some ⟨g, 0, none⟩) 6 cap)) hlt).cellAt 5 (by omega)
        have k5 := (own_fr hown2 ((Fr.refl b w2).set 0 (.slice (some ⟨g, 0, none⟩) 6 cap)) hlt).frozenAt 5
        simp only [List.getElem?_cons_zero, List.getElem?_cons_succ] at k4
        have HR := Lib.hid hr2
        have HB := Lib.hid (hbel.trans hbel2)
        clear hgrow hown2 hown h0 h1 f0 f1 hr hc hfz hr2 hbel3 hbel hbel2
        go_wp2_with fail
        go_region
        go_wp2_with fail
        go_region
        go_wp2_with fail
        go_roundw
        case rel => exact .inr (.inr (.inr (.inr (.inr (.inr (⟨rfl, _, (wr_store HR.out HB.out hgB 5 _ 45 (by decide) [168, 0, 0, 0, 8, 16] rfl).1, (wr_store HR.out HB.out hgB 5 _ 45 (by decide) [168, 0, 0, 0, 8, 16] rfl).2⟩))))))
        case measure => simp [intOf]
    · go_wp2_with fail
      exact end_none (.inl rfl) rfl rfl ⟨rfl, v', hr, hbel⟩
end Go.Proofs.Ytgeaklemlnmnpaa.BW
