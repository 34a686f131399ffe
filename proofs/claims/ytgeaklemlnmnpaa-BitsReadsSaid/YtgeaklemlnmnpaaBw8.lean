/- The law BitsReads walked: over any bytes, any fields it returns true and changes nothing that was there. -/
import Derived.Test.YtgeaklemlnmnpaaBw7
set_option linter.unusedVariables false
namespace Go.Proofs.Ytgeaklemlnmnpaa.BW
open Go.RowKit
theorem Bs.below {w w' : World} {ao : Option Addr} {len B : Nat} {D : Nat → Int} (h : Bs w ao len D) (k : Below B w w') (hB : 0 < len → ∀ ad, ao = some ad → ad.block < B) : Bs w' ao len D :=
  ⟨fun j hj => by
    obtain ⟨ad, h1, h2, h3, h4, h5⟩ := h.hd j hj
    exact ⟨ad, h1, Nat.lt_of_lt_of_le h2 k.size, h3, by rw [k.cell (p := ad.add j) (by rw [plus_block]; exact hB (by omega) ad h1)]; exact h4, h5⟩⟩
theorem RdE.drew {w : World} {b f : Nat} {D : Nat → Int} {s : St} (h : RdE w b f D s) : RdE w.drew b f D s := by obtain ⟨fo, cap, h⟩ := h; exact ⟨_, _, h.drew⟩
theorem RwE.drew {w : World} {b f : Nat} {D : Nat → Int} {s : St} (h : RwE w b f D s) : RwE w.drew b f D s := by obtain ⟨fo, cap, h⟩ := h; exact ⟨_, _, h.drew⟩
theorem Below.drewN' {B : Nat} {w W : World} (h : Below B w W) (n : Nat) : Below B w (W.drewN n) := ⟨h.os, h.tape, h.output, h.size, h.block⟩
/-- What the law comes to. -/
def LawP (w : World) (e : Ending) (w' : World) : Prop := e = .returned (.bool true) ∧ Below w.heap.size w w'
set_option maxRecDepth 100000 in
set_option maxHeartbeats 2000000 in
theorem law_any {ao lo : Option Addr} {len cap n cp : Nat} {D N W : Nat → Int} {T E : Nat → Bool} {w : World} (hb : Bs w ao len D) (hao : 0 < len → ∀ ad, ao = some ad → ad.block < w.heap.size) (hn : ao = none → len = 0 ∧ cap = 0)
    (hf : Fs w lo n N W T E) (hnl : n ≤ 9223372036854775807) (hlen : len ≤ 9223372036854775807) :
    Calls Try.prog 4 #[.slice ao len cap, .slice lo n cp] w fun e w' => LawP w e w' := by
  have HB := Lib.hid hb
  have HF := Lib.hid hf
  have HA := Lib.hid hao
  have HN := Lib.hid hn
  clear hb hf hao hn
  go_enter Try.func4, Try.ntmps4
  go_wp2_with fail
  refine (few_any HF.out hnl).mono ?_
  rintro e w1 ⟨v, rfl, hb1⟩
  by_cases hgo : v = true ∧ len ≤ 500
  · obtain ⟨rfl, h500⟩ := hgo
    have HBel1 := Lib.hid hb1
    clear hb1
    go_wp2_with fail
    refine (newReader_any (HB.out.below HBel1.out HA.out) (by omega) HN.out).mono ?_
    rintro e w2 ⟨b, f, fo, cap1, rfl, hr2, hb2, hbB, hfB⟩
    have HBel2 := Lib.hid (HBel1.out.trans (hb2.mono HBel1.out.size))
    have hbl := hr2.lt
    have hfl : 0 < len → f < w2.heap.size := hr2.flt
    have HR2 := Lib.hid hr2
    clear hb2 hr2
    go_wp2_with fail
    refine (rowOf_any (HB.out.below HBel2.out HA.out) (by omega)).mono ?_
    rintro e w3 ⟨c, g, lo3, cap3, rfl, hw3, hb3, hcB, hgB⟩
    have hs1 := HBel1.out.size
    have HBel3 := Lib.hid (HBel2.out.trans (hb3.mono HBel2.out.size))
    have hR3 : RdE w3 b f D ⟨len, 0, 0⟩ := ⟨_, _, HR2.out.below hb3 hbl hfl⟩
    have hW3 : RwE w3 c g D ⟨len, 0, 0⟩ := ⟨_, _, hw3⟩
    have HD := Lib.hid (fun j (hj : j < len) => show 0 ≤ D j ∧ D j ≤ 255 by obtain ⟨ad, _, _, _, _, h5⟩ := HB.out.hd j hj; exact h5)
    have HR3 := Lib.hid hR3
    have HW3 := Lib.hid hW3
    have hfb : 0 < len → f ≠ b := fun h0 => (hfB h0).2
    have hgc : 0 < len → g ≠ c := fun h0 => (hgB h0).2
    have hbc : b ≠ c := by omega
    have hfc : 0 < len → f ≠ c := fun h0 => by have := hfl h0; omega
    have hgb : 0 < len → g ≠ b := fun h0 => by have := (hgB h0).1; omega
    have HFB := Lib.hid hfb
    have HGC := Lib.hid hgc
    have HFC := Lib.hid hfc
    have HGB := Lib.hid hgb
    have hwb : w.heap.size ≤ b := by omega
    have hwc : w.heap.size ≤ c := by have := HBel2.out.size; omega
    clear hw3 hb3 hR3 hW3 hfB hgB hfl hfb hgc hfc hgb HR2 HBel1 HBel2
    go_wp2_with fail
    go_loopw [26] (fun i wr => ∃ k : Nat, k ≤ n ∧ i = .int .i64 k ∧ ∃ s, RdE wr b f D s ∧ RwE wr c g D s ∧ Ok len s ∧ Below w.heap.size w wr) (fun i _ => n - (intOf i).toNat)
    case atStart => exact ⟨0, Nat.zero_le _, rfl, _, HR3.out, HW3.out, ⟨Nat.zero_le _, Nat.le_refl _, fun h => absurd rfl h⟩, HBel3.out⟩
    case round =>
      obtain ⟨k, hk, rfl, s, hr, hw, ho, hbel⟩ := hrel
      by_cases hlt : k < n
      · obtain ⟨fb, off, A, m, c', rfl, hfbl, c0, c1, c2, c3, c4⟩ := HF.out.hd k hlt
        have d0 := (hbel.cell (p := ⟨fb, off + k * 5, none⟩) hfbl).trans c0
        have d1 := (hbel.cell (p := ⟨fb, off + k * 5 + 1, none⟩) hfbl).trans c1
        have d2 := (hbel.cell (p := ⟨fb, off + k * 5 + 2, none⟩) hfbl).trans c2
        have d3 := (hbel.cell (p := ⟨fb, off + k * 5 + 3, none⟩) hfbl).trans c3
        have d4 := (hbel.cell (p := ⟨fb, off + k * 5 + 4, none⟩) hfbl).trans c4
        have hs := hbel.size
        have lb := hr.lt
        have lc := hw.lt
        have HR := Lib.hid hr
        have HW := Lib.hid hw
        have HBr := Lib.hid hbel
        have HO := Lib.hid ho
        clear c0 c1 c2 c3 c4 hr hw hbel ho
        by_cases ht : T k = true
        · go_wp2_with fail
          go_region_with (first
            | (go_at_call 20; refine (utext ((HR.out.alloc _).drew) HO.out (by omega) HFB.out HD.out _).mono ?_; rintro e wa ⟨va, rfl, hsa, hra, hfa⟩; have HWa := Lib.hid (((HW.out.alloc _).drew).other hfa (fun e => hbc e.symm) (fun h0 => HGB.out (by have := HO.out.m; omega))); have HRa := Lib.hid hra; have HFa := Lib.hid hfa; have HSa := Lib.hid hsa; have cva := hsa.conv; clear hra hfa hsa)
            | (go_at_call 21; refine (urtext HWa.out HO.out (by omega) HGC.out _).mono ?_; rintro e wb ⟨vb, rfl, hsb, hwb2, hfb2⟩; have HWb := Lib.hid hwb2; have HFb := Lib.hid hfb2; have cvb := hsb.conv; have cvab := (HSa.out.keep hfb2 (by simp; omega)).conv; clear hwb2 hfb2 hsb))
          all_goals
            have HO1 := Lib.hid (textS_ok HO.out (W k))
            have HRb := Lib.hid (HRa.out.other HFb.out hbc (fun h0 => HFC.out (by have := HO1.out.m; omega)))
            obtain ⟨lo9, cp9, hh⟩ := id HWb.out
            have k0 := hh.c0
            have HBb := Lib.hid (Fr.below (Fr.below (HBr.out.alloc hs _).drew HFa.out hwb (Nat.le_refl _)) HFb.out hwc (Nat.le_refl _))
            clear hh d0 d1 d2 d3 d4 cva cvb cvab
            go_wp2_with fail
            go_quiet (first | (go_at_call 26; exact Calls.quiet_of (uleft (HRb.out.drewN _) HO1.out (by omega))) | (go_at_call 27; exact Calls.quiet_of (uend (HRb.out.drewN _) HO1.out (by omega))) | (go_at_call 28; exact Calls.quiet_of (urends (HWb.out.drewN _) HO1.out (by omega))))
            go_wp2_with fail
            go_roundw
            case rel => exact ⟨k + 1, by omega, by go_num, _, HRb.out.drewN _, HWb.out.drewN _, HO1.out, Below.drewN' HBb.out _⟩
            case measure => simp [intOf]; omega
        · by_cases he : E k = true
          · have ht' : T k = false := by simpa using ht
            clear ht
            go_wp2_with fail
            refine (ueven (HR.out.alloc _) HO.out (by omega) HFB.out HD.out).mono ?_
            rintro e wa ⟨rfl, hra, hfa⟩
            have HWa := Lib.hid ((HW.out.alloc (.cells #[.int .u64 (N k), .int .i64 (W k), .bool false, .bool true, .slice A m c'] 44)).other hfa (fun e => hbc e.symm) (fun h0 => HGB.out (by have := HO.out.m; omega)))
            have HRa := Lib.hid hra
            have HFa := Lib.hid hfa
            clear hra hfa
            go_wp2_with fail
            refine (uover HWa.out HO.out (by omega) HGC.out).mono ?_
            rintro e wb ⟨rfl, hwb2, hfb2⟩
            have HWb := Lib.hid hwb2
            have HFb := Lib.hid hfb2
            clear hwb2 hfb2
            have HO1 := Lib.hid (even_ok (D := D) HO.out)
            have HRb := Lib.hid (HRa.out.other HFb.out hbc (fun h0 => HFC.out (by have := HO1.out.m; omega)))
            obtain ⟨lo9, cp9, hh⟩ := id HWb.out
            have k0 := hh.c0
            have HBb := Lib.hid (Fr.below (Fr.below (HBr.out.alloc hs _) HFa.out hwb (Nat.le_refl _)) HFb.out hwc (Nat.le_refl _))
            clear hh d0 d1 d2 d3 d4
            go_wp2_with fail
            go_quiet (first | (go_at_call 26; exact Calls.quiet_of (uleft (HRb.out.drewN _) HO1.out (by omega))) | (go_at_call 27; exact Calls.quiet_of (uend (HRb.out.drewN _) HO1.out (by omega))) | (go_at_call 28; exact Calls.quiet_of (urends (HWb.out.drewN _) HO1.out (by omega))))
            go_wp2_with fail
            go_roundw
            case rel => exact ⟨k + 1, by omega, by go_num, _, HRb.out.drewN _, HWb.out.drewN _, HO1.out, Below.drewN' HBb.out _⟩
            case measure => simp [intOf]; omega
          · have ht' : T k = false := by simpa using ht
            have he' : E k = false := by simpa using he
            clear ht he
            go_wp2_with fail
            go_region_with (first
              | (go_at_call 24; refine (utake ((HR.out.alloc _).drew) HO.out (by omega) HFB.out HD.out _).mono ?_; rintro e wa ⟨rfl, hra, hfa⟩; have qa : wa.cell? ⟨wr.heap.size, 1, none⟩ = some (.int .i64 (W k)) := (hfa.cell (by simp) (by show wr.heap.size ≠ b; omega)).trans (by simp); have HWa := Lib.hid (((HW.out.alloc _).drew).other hfa (fun e => hbc e.symm) (fun h0 => HGB.out (by have := HO.out.m; omega))); have HRa := Lib.hid hra; have HFa := Lib.hid hfa; clear hra hfa)
              | (go_at_call 25; refine (urtake HWa.out HO.out (by omega) HGC.out _).mono ?_; rintro e wb ⟨rfl, hwb2, hfb2⟩; have HWb := Lib.hid hwb2; have HFb := Lib.hid hfb2; clear hwb2 hfb2))
            all_goals
              have HO1 := Lib.hid (takeS_ok HO.out (W k))
              have HRb := Lib.hid (HRa.out.other HFb.out hbc (fun h0 => HFC.out (by have := HO1.out.m; omega)))
              obtain ⟨lo9, cp9, hh⟩ := id HWb.out
              have k0 := hh.c0
              have HBb := Lib.hid (Fr.below (Fr.below (HBr.out.alloc hs _).drew HFa.out hwb (Nat.le_refl _)) HFb.out hwc (Nat.le_refl _))
              clear hh d0 d1 d2 d3 d4 qa
              go_wp2_with fail
              go_quiet (first | (go_at_call 26; exact Calls.quiet_of (uleft (HRb.out.drewN _) HO1.out (by omega))) | (go_at_call 27; exact Calls.quiet_of (uend (HRb.out.drewN _) HO1.out (by omega))) | (go_at_call 28; exact Calls.quiet_of (urends (HWb.out.drewN _) HO1.out (by omega))))
              go_wp2_with fail
              go_roundw
              case rel => exact ⟨k + 1, by omega, by go_num, _, HRb.out.drewN _, HWb.out.drewN _, HO1.out, Below.drewN' HBb.out _⟩
              case measure => simp [intOf]; omega
      · have hkn : k = n := by omega
        subst hkn
        go_wp2_with fail
        refine (awake_any _).mono ?_
        rintro e w4 ⟨rfl, hbw⟩
        go_wp2_with fail
        go_ret
        exact ⟨rfl, hbel.trans (hbw.mono hbel.size)⟩
  · by_cases hv : v = true
    · subst hv
      have h500 : 500 < len := by
        by_cases h : len ≤ 500
        · exact absurd ⟨rfl, h⟩ hgo
        · omega
      clear hgo
      go_wp2_with fail
      refine (awake_any _).mono ?_
      rintro e w4 ⟨rfl, hbw⟩
      go_wp2_with fail
      go_ret
      exact ⟨rfl, hb1.trans (hbw.mono hb1.size)⟩
    · have hv' : v = false := by simpa using hv
      subst hv'
      clear hgo hv
      go_wp2_with fail
      refine (awake_any _).mono ?_
      rintro e w4 ⟨rfl, hbw⟩
      go_wp2_with fail
      go_ret
      exact ⟨rfl, hb1.trans (hbw.mono hb1.size)⟩
end Go.Proofs.Ytgeaklemlnmnpaa.BW
