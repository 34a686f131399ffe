/- Each operation of the two readers in one contract, whatever the state; what they share. -/
import Derived.Test.YtgeaklemlnmnpaaBw6
set_option linter.unusedVariables false
namespace Go.Proofs.Ytgeaklemlnmnpaa.BW
open Go.RowKit
/-- What a state that is reached is like. -/
structure Ok (M : Nat) (s : St) : Prop where
  a : s.a ≤ 8 * s.m
  m : s.m ≤ M
  e : s.E ≠ 0 → s.m = 0
def takeN (D : Nat → Int) (s : St) (n : Int) : Int := if n < 0 ∨ 64 < n ∨ s.E ≠ 0 ∨ 8 * (s.m : Int) - s.a < n then 0 else num D s.a n.toNat
def takeS (s : St) (n : Int) : St := if n < 0 ∨ 64 < n ∨ s.E ≠ 0 then s else if 8 * (s.m : Int) - s.a < n then ⟨0, 0, 2⟩ else ⟨s.m, s.a + n.toNat, s.E⟩
def textS (s : St) (n : Int) : St := if n ≤ 0 ∨ s.E ≠ 0 then s else if 8 * (s.m : Int) - s.a < 8 * n then ⟨0, 0, 2⟩ else ⟨s.m, s.a + 8 * n.toNat, s.E⟩
def textL (D : Nat → Int) (s : St) (n : Int) : List Int := if n ≤ 0 ∨ s.E ≠ 0 ∨ 8 * (s.m : Int) - s.a < 8 * n then [] else (List.range n.toNat).map fun j => num D (s.a + 8 * j) 8 % 256
theorem takeS_ok {M : Nat} {s : St} (h : Ok M s) (n : Int) : Ok M (takeS s n) := by
  obtain ⟨h1, h2, h3⟩ := h
  unfold takeS
  split
  · exact ⟨h1, h2, h3⟩
  · rename_i hn
    split
    · exact ⟨Nat.le_refl _, Nat.zero_le _, fun _ => rfl⟩
    · exact ⟨by show s.a + n.toNat ≤ 8 * s.m; omega, h2, h3⟩
theorem textS_ok {M : Nat} {s : St} (h : Ok M s) (n : Int) : Ok M (textS s n) := by
  obtain ⟨h1, h2, h3⟩ := h
  unfold textS
  split
  · exact ⟨h1, h2, h3⟩
  · rename_i hn
    split
    · exact ⟨Nat.le_refl _, Nat.zero_le _, fun _ => rfl⟩
    · exact ⟨by show s.a + 8 * n.toNat ≤ 8 * s.m; omega, h2, h3⟩
theorem evenF_ok {M : Nat} {D : Nat → Int} : ∀ (k : Nat) {s : St}, Ok M s → Ok M (evenF D k s) := by
  intro k
  induction k with
  | zero => intro s h; exact h
  | succ k ih =>
    intro s h
    rw [evenF]
    split
    · exact h
    · rename_i ha
      split
      · exact ih ⟨by show s.a + 1 ≤ 8 * s.m; have := h.a; omega, h.m, h.e⟩
      · exact ⟨Nat.le_refl _, Nat.zero_le _, fun _ => rfl⟩
theorem even_ok {M : Nat} {D : Nat → Int} {s : St} (h : Ok M s) : Ok M (even D s) := evenF_ok _ h
section
variable {b f M : Nat} {D : Nat → Int} {s : St} {fo : Option Addr} {cap : Nat} {w : World}
/-- The reader in the state s, wherever its slice stands. -/
def RdE (w : World) (b f : Nat) (D : Nat → Int) (s : St) : Prop := ∃ fo cap, Rd w b f D s fo cap
def RwE (w : World) (b f : Nat) (D : Nat → Int) (s : St) : Prop := ∃ fo cap, Rw w b f D s fo cap
theorem utake (h : RdE w b f D s) (ho : Ok M s) (hM : M ≤ 1000) (hfb : 0 < M → f ≠ b) (hD : ∀ j, j < M → 0 ≤ D j ∧ D j ≤ 255) (n : Int) :
    Calls Try.prog 24 #[.pointer (some ⟨b, 0, none⟩), .int .i64 n] w fun e w' => e = .returned (.int .u64 (takeN D s n)) ∧ RdE w' b f D (takeS s n) ∧ Fr b w w' := by
  obtain ⟨fo, cap, h⟩ := h
  by_cases hg : n < 0 ∨ 64 < n
  · have e1 : takeN D s n = 0 := by unfold takeN; rw [if_pos]; omega
    have e2 : takeS s n = s := by unfold takeS; rw [if_pos]; omega
    rw [e1, e2]
    exact (take_bad n hg).mono (by rintro e w' ⟨rfl, rfl⟩; exact ⟨rfl, ⟨_, _, h⟩, Fr.refl _ _⟩)
  · by_cases hE : s.E = 0
    · by_cases hs : 8 * (s.m : Int) - s.a < n
      · have e1 : takeN D s n = 0 := by unfold takeN; rw [if_pos]; omega
        have e2 : takeS s n = ⟨0, 0, 2⟩ := by unfold takeS; rw [if_neg (by omega), if_pos hs]
        rw [e1, e2]
        exact (take_short h ho.a (by have := ho.m; omega) hE n (by omega) (by omega) hs).mono (by rintro e w' ⟨rfl, hr, hf⟩; exact ⟨rfl, ⟨_, _, hr⟩, hf⟩)
      · have e1 : takeN D s n = num D s.a n.toNat := by unfold takeN; rw [if_neg]; omega
        have e2 : takeS s n = ⟨s.m, s.a + n.toNat, s.E⟩ := by unfold takeS; rw [if_neg (by omega), if_neg hs]
        rw [e1, e2]
        have hn : ((n.toNat : Nat) : Int) = n := by omega
        have hm := ho.m
        have ha := ho.a
        by_cases hM0 : 0 < M
        · have key := take_ok h (by omega) hE (hfb hM0) (fun j hj => hD j (by omega)) n.toNat (by omega) (by omega)
          rw [hn] at key
          exact key.mono (by rintro e w' ⟨rfl, hr, hf⟩; exact ⟨rfl, ⟨_, _, hr⟩, hf⟩)
        · have hm0 : s.m = 0 := by omega
          have hfb' : ∃ f', f' ≠ b := ⟨b + 1, by omega⟩
          obtain ⟨f', hf'⟩ := hfb'
          have h' : Rd w b f' D s fo cap := ⟨h.c0, h.c1, h.c2, h.f0, h.f1, h.f2, fun h0 => by omega, fun j hj => by omega⟩
          have key := take_ok h' (by omega) hE hf' (fun j hj => by omega) n.toNat (by omega) (by omega)
          rw [hn] at key
          exact key.mono (by
            rintro e w' ⟨rfl, hr, hf⟩
            exact ⟨rfl, ⟨_, _, ⟨hr.c0, hr.c1, hr.c2, hr.f0, hr.f1, hr.f2, fun h0 => absurd (show 0 < s.m from h0) (by omega), fun j hj => absurd (show j < s.m from hj) (by omega)⟩⟩, hf⟩)
    · have e1 : takeN D s n = 0 := by unfold takeN; rw [if_pos]; omega
      have e2 : takeS s n = s := by unfold takeS; rw [if_pos]; omega
      rw [e1, e2]
      exact (take_err h hE n (by omega) (by omega)).mono (by rintro e w' ⟨rfl, rfl⟩; exact ⟨rfl, ⟨_, _, h⟩, Fr.refl _ _⟩)
theorem urtake (h : RwE w b f D s) (ho : Ok M s) (hM : M ≤ 1000) (hfb : 0 < M → f ≠ b) (n : Int) :
    Calls Try.prog 25 #[.pointer (some ⟨b, 0, none⟩), .int .i64 n] w fun e w' => e = .returned (.int .u64 (takeN D s n)) ∧ RwE w' b f D (takeS s n) ∧ Fr b w w' := by
  obtain ⟨fo, cap, h⟩ := h
  have hm := ho.m
  have ha := ho.a
  by_cases hg : n < 0 ∨ 64 < n
  · have e1 : takeN D s n = 0 := by unfold takeN; rw [if_pos]; omega
    have e2 : takeS s n = s := by unfold takeS; rw [if_pos]; omega
    rw [e1, e2]
    exact (rtake_bad h n hg).mono (by rintro e w' ⟨rfl, rfl⟩; exact ⟨rfl, ⟨_, _, h⟩, Fr.refl _ _⟩)
  · by_cases hE : s.E = 0
    · by_cases hs : 8 * (s.m : Int) - s.a < n
      · have e1 : takeN D s n = 0 := by unfold takeN; rw [if_pos]; omega
        have e2 : takeS s n = ⟨0, 0, 2⟩ := by unfold takeS; rw [if_neg (by omega), if_pos hs]
        rw [e1, e2]
        exact (rtake_short h ha (by omega) hE n (by omega) (by omega) hs).mono (by rintro e w' ⟨rfl, hr, hf⟩; exact ⟨rfl, ⟨_, _, hr⟩, hf⟩)
      · have e1 : takeN D s n = num D s.a n.toNat := by unfold takeN; rw [if_neg]; omega
        have e2 : takeS s n = ⟨s.m, s.a + n.toNat, s.E⟩ := by unfold takeS; rw [if_neg (by omega), if_neg hs]
        rw [e1, e2]
        have hn : ((n.toNat : Nat) : Int) = n := by omega
        have key := rtake_ok h ha (by omega) hE (fun h0 => hfb (by omega)) n.toNat (by omega) (by omega)
        rw [hn] at key
        exact key.mono (by rintro e w' ⟨rfl, lo', cap', hr, hf⟩; exact ⟨rfl, ⟨_, _, hr⟩, hf⟩)
    · have e1 : takeN D s n = 0 := by unfold takeN; rw [if_pos]; omega
      have e2 : takeS s n = s := by unfold takeS; rw [if_pos]; omega
      rw [e1, e2]
      exact (rtake_err h hE n (by omega) (by omega)).mono (by rintro e w' ⟨rfl, rfl⟩; exact ⟨rfl, ⟨_, _, h⟩, Fr.refl _ _⟩)
/-- A slice whose bytes are xs, in a block of its own (from B on). -/
def Str (w : World) (B : Nat) (v : Value) (xs : List Int) : Prop := (v = .slice none 0 0 ∧ xs = []) ∨ ∃ g cap, v = .slice (some ⟨g, 0, none⟩) xs.length cap ∧ B ≤ g ∧ g < w.heap.size ∧ ∀ i, i < xs.length → w.cell? ⟨g, i, none⟩ = some (.int .u8 (xs.getD i 0))
theorem Str.conv {B : Nat} {v : Value} {xs : List Int} (h : Str w B v xs) : (convert 35 9 v).run Try.prog w = .ok (.string (strOfNums xs)) w := by
  rcases h with ⟨rfl, rfl⟩ | ⟨g, cap, rfl, _, _, hc⟩
  · exact run_convert_bytes_nil w 35 5 Try.underlying35 Try.underlying5 0 0 9 Try.underlying9
  · exact run_convert_bytes_arg w 35 5 Try.underlying35 Try.underlying5 g 0 xs.length cap xs rfl (fun i hi => by rw [Nat.zero_add]; exact hc i hi) 9 Try.underlying9
theorem Str.keep {w' : World} {c B : Nat} {v : Value} {xs : List Int} (h : Str w B v xs) (k : Fr c w w') (hc : c < B) : Str w' B v xs := by
  rcases h with ⟨rfl, rfl⟩ | ⟨g, cap, rfl, hB, hg, hx⟩
  · exact .inl ⟨rfl, rfl⟩
  · exact .inr ⟨g, cap, rfl, hB, Nat.lt_of_lt_of_le hg k.size, fun i hi => by rw [k.cell (a := ⟨g, i, none⟩) hg (by show g ≠ c; omega)]; exact hx i hi⟩
theorem str_of_own {B n : Nat} {v : Value} {a : Nat} (h : w.ownsRow B 5 1 v n (txt D a n)) (hn : 0 < n) : Str w B v ((List.range n).map fun j => num D (a + 8 * j) 8 % 256) := by
  obtain ⟨g, cap, rfl, hB, hc, _⟩ := own_slice1 h hn
  refine .inr ⟨g, cap, by simp, hB, (h.lt g rfl).2, fun i hi => ?_⟩
  have hi' : i < n := by simpa using hi
  rw [hc i hi']
  simp [txt, hi']
theorem utext (h : RdE w b f D s) (ho : Ok M s) (hM : M ≤ 1000) (hfb : 0 < M → f ≠ b) (hD : ∀ j, j < M → 0 ≤ D j ∧ D j ≤ 255) (n : Int) :
    Calls Try.prog 20 #[.pointer (some ⟨b, 0, none⟩), .int .i64 n] w fun e w' => ∃ v, e = .returned v ∧ Str w' w.heap.size v (textL D s n) ∧ RdE w' b f D (textS s n) ∧ Fr b w w' := by
  obtain ⟨fo, cap, h⟩ := h
  have hm := ho.m
  have ha := ho.a
  by_cases hg : n ≤ 0
  · have e1 : textL D s n = [] := by unfold textL; rw [if_pos]; omega
    have e2 : textS s n = s := by unfold textS; rw [if_pos]; omega
    rw [e1, e2]
    exact (text_none n hg).mono (by rintro e w' ⟨rfl, rfl⟩; exact ⟨_, rfl, .inl ⟨rfl, rfl⟩, ⟨_, _, h⟩, Fr.refl _ _⟩)
  · by_cases hE : s.E = 0
    · by_cases hs : 8 * (s.m : Int) - s.a < 8 * n
      · have e1 : textL D s n = [] := by unfold textL; rw [if_pos]; omega
        have e2 : textS s n = ⟨0, 0, 2⟩ := by unfold textS; rw [if_neg (by omega), if_pos hs]
        rw [e1, e2]
        exact (text_short h ha (by omega) hE n (by omega) hs).mono (by rintro e w' ⟨rfl, hr, hf⟩; exact ⟨_, rfl, .inl ⟨rfl, rfl⟩, ⟨_, _, hr⟩, hf⟩)
      · have e1 : textL D s n = (List.range n.toNat).map fun j => num D (s.a + 8 * j) 8 % 256 := by unfold textL; rw [if_neg]; omega
        have e2 : textS s n = ⟨s.m, s.a + 8 * n.toNat, s.E⟩ := by unfold textS; rw [if_neg (by omega), if_neg hs]
        rw [e1, e2]
        have hn : ((n.toNat : Nat) : Int) = n := by omega
        have key := text_ok h (by omega) hE (hfb (by omega)) (fun j hj => hD j (by omega)) n.toNat (by omega) (by omega)
        rw [hn] at key
        exact key.mono (by rintro e w' ⟨v, rfl, hown, hr, hf⟩; exact ⟨v, rfl, str_of_own hown (by omega), ⟨_, _, hr⟩, hf⟩)
    · have e1 : textL D s n = [] := by unfold textL; rw [if_pos]; omega
      have e2 : textS s n = s := by unfold textS; rw [if_pos]; omega
      rw [e1, e2]
      exact (text_err h (by omega) hE n (by omega)).mono (by rintro e w' ⟨rfl, rfl⟩; exact ⟨_, rfl, .inl ⟨rfl, rfl⟩, ⟨_, _, h⟩, Fr.refl _ _⟩)
theorem urtext (h : RwE w b f D s) (ho : Ok M s) (hM : M ≤ 1000) (hfb : 0 < M → f ≠ b) (n : Int) :
    Calls Try.prog 21 #[.pointer (some ⟨b, 0, none⟩), .int .i64 n] w fun e w' => ∃ v, e = .returned v ∧ Str w' w.heap.size v (textL D s n) ∧ RwE w' b f D (textS s n) ∧ Fr b w w' := by
  obtain ⟨fo, cap, h⟩ := h
  have hm := ho.m
  have ha := ho.a
  by_cases hg : n ≤ 0
  · have e1 : textL D s n = [] := by unfold textL; rw [if_pos]; omega
    have e2 : textS s n = s := by unfold textS; rw [if_pos]; omega
    rw [e1, e2]
    exact (rtext_none n hg).mono (by rintro e w' ⟨rfl, rfl⟩; exact ⟨_, rfl, .inl ⟨rfl, rfl⟩, ⟨_, _, h⟩, Fr.refl _ _⟩)
  · by_cases hE : s.E = 0
    · by_cases hs : 8 * (s.m : Int) - s.a < 8 * n
      · have e1 : textL D s n = [] := by unfold textL; rw [if_pos]; omega
        have e2 : textS s n = ⟨0, 0, 2⟩ := by unfold textS; rw [if_neg (by omega), if_pos hs]
        rw [e1, e2]
        exact (rtext_short h ha (by omega) hE n (by omega) hs).mono (by rintro e w' ⟨rfl, hr, hf⟩; exact ⟨_, rfl, .inl ⟨rfl, rfl⟩, ⟨_, _, hr⟩, hf⟩)
      · have e1 : textL D s n = (List.range n.toNat).map fun j => num D (s.a + 8 * j) 8 % 256 := by unfold textL; rw [if_neg]; omega
        have e2 : textS s n = ⟨s.m, s.a + 8 * n.toNat, s.E⟩ := by unfold textS; rw [if_neg (by omega), if_neg hs]
        rw [e1, e2]
        have hn : ((n.toNat : Nat) : Int) = n := by omega
        have key := rtext_ok h (by omega) hE (hfb (by omega)) n.toNat (by omega) (by omega)
        rw [hn] at key
        exact key.mono (by rintro e w' ⟨v, rfl, hown, ⟨lo', cap', hr⟩, hf⟩; exact ⟨v, rfl, str_of_own hown (by omega), ⟨_, _, hr⟩, hf⟩)
    · have e1 : textL D s n = [] := by unfold textL; rw [if_pos]; omega
      have e2 : textS s n = s := by unfold textS; rw [if_pos]; omega
      rw [e1, e2]
      exact (rtext_err h hE n (by omega)).mono (by rintro e w' ⟨rfl, rfl⟩; exact ⟨_, rfl, .inl ⟨rfl, rfl⟩, ⟨_, _, h⟩, Fr.refl _ _⟩)
theorem ueven (h : RdE w b f D s) (ho : Ok M s) (hM : M ≤ 1000) (hfb : 0 < M → f ≠ b) (hD : ∀ j, j < M → 0 ≤ D j ∧ D j ≤ 255) :
    Calls Try.prog 22 #[.pointer (some ⟨b, 0, none⟩)] w fun e w' => e = .returned (.tuple #[]) ∧ RdE w' b f D (even D s) ∧ Fr b w w' := by
  obtain ⟨fo, cap, h⟩ := h
  have hm := ho.m
  exact (even_any h ho.a (by omega) (fun h0 => hfb (by omega)) (fun j hj => hD j (by omega))).mono (by rintro e w' ⟨rfl, fo', cap', hr, hf⟩; exact ⟨rfl, ⟨_, _, hr⟩, hf⟩)
theorem uover (h : RwE w b f D s) (ho : Ok M s) (hM : M ≤ 1000) (hfb : 0 < M → f ≠ b) :
    Calls Try.prog 23 #[.pointer (some ⟨b, 0, none⟩)] w fun e w' => e = .returned (.tuple #[]) ∧ RwE w' b f D (even D s) ∧ Fr b w w' := by
  obtain ⟨fo, cap, h⟩ := h
  have hm := ho.m
  exact (over_any h ho.a (by omega) ho.e (fun h0 => hfb (by omega))).mono (by rintro e w' ⟨rfl, fo', cap', hr, hf⟩; exact ⟨rfl, ⟨_, _, hr⟩, hf⟩)
theorem uleft (h : RdE w b f D s) (ho : Ok M s) (hM : M ≤ 1000) :
    Calls Try.prog 26 #[.pointer (some ⟨b, 0, none⟩)] w fun e w' => e = .returned (.int .i64 ((8 * s.m - s.a : Nat) : Int)) ∧ ∃ k, w' = w.drewN k := by
  obtain ⟨fo, cap, h⟩ := h
  have hm := ho.m
  have ha := ho.a
  have e : (8 * (s.m : Int) - s.a) = ((8 * s.m - s.a : Nat) : Int) := by omega
  have key := left_any h ha (by omega)
  rw [e] at key
  exact key
def endE (s : St) : Int := if s.E = 0 ∧ s.a < 8 * s.m then 3 else s.E
theorem uend (h : RdE w b f D s) (ho : Ok M s) (hM : M ≤ 1000) :
    Calls Try.prog 27 #[.pointer (some ⟨b, 0, none⟩)] w fun e w' => e = .returned (.int .i64 (endE s)) ∧ ∃ k, w' = w.drewN k := by
  obtain ⟨fo, cap, h⟩ := h
  have hm := ho.m
  exact end_any h ho.a (by omega)
theorem urends (h : RwE w b f D s) (ho : Ok M s) (hM : M ≤ 1000) :
    Calls Try.prog 28 #[.pointer (some ⟨b, 0, none⟩)] w fun e w' => e = .returned (.int .i64 (endE s)) ∧ ∃ k, w' = w.drewN k := by
  obtain ⟨fo, cap, h⟩ := h
  have hm := ho.m
  exact rends_any h (by omega)
theorem RdE.drewN (h : RdE w b f D s) (k : Nat) : RdE (w.drewN k) b f D s := by obtain ⟨fo, cap, h⟩ := h; exact ⟨_, _, h.drewN k⟩
theorem RwE.drewN (h : RwE w b f D s) (k : Nat) : RwE (w.drewN k) b f D s := by obtain ⟨fo, cap, h⟩ := h; exact ⟨_, _, h.drewN k⟩
theorem RdE.lt (h : RdE w b f D s) : b < w.heap.size := by obtain ⟨fo, cap, h⟩ := h; exact h.lt
theorem RwE.lt (h : RwE w b f D s) : b < w.heap.size := by obtain ⟨fo, cap, h⟩ := h; exact h.lt
theorem RdE.other {w' : World} {c : Nat} (h : RdE w b f D s) (k : Fr c w w') (hb : b ≠ c) (hf : 0 < s.m → f ≠ c) : RdE w' b f D s := by obtain ⟨fo, cap, h⟩ := h; exact ⟨_, _, h.other k hb hf⟩
theorem RwE.other {w' : World} {c : Nat} (h : RwE w b f D s) (k : Fr c w w') (hb : b ≠ c) (hf : 0 < s.m → f ≠ c) : RwE w' b f D s := by obtain ⟨fo, cap, h⟩ := h; exact ⟨_, _, h.other k hb hf⟩
theorem RdE.alloc (h : RdE w b f D s) (o : Obj) : RdE (w.alloc o) b f D s := by
  obtain ⟨fo, cap, h⟩ := h
  exact ⟨_, _, h.below ((Below.refl _ _).alloc (Nat.le_refl _) o) h.lt h.flt⟩
theorem RwE.alloc (h : RwE w b f D s) (o : Obj) : RwE (w.alloc o) b f D s := by
  obtain ⟨fo, cap, h⟩ := h
  exact ⟨_, _, h.below ((Below.refl _ _).alloc (Nat.le_refl _) o) h.lt h.flt⟩
end
end Go.Proofs.Ytgeaklemlnmnpaa.BW
