/- The statement MaskLaws over the printed Lean functions: it answers true for every two trees and every signature. Conditions: they read within the reading's bounds. -/
import Derived.Test.YtmlgidffgojkhaaOpenT
import Derived.Test.YtmlgidffgojkhaaQx0MaskLawsF
import Derived.Test.YtmlgidffgojkhaaQx1
import Derived.Test.YtmlgidffgojkhaaQx2
import Derived.Test.YtmlgidffgojkhaaQx3
import Derived.Test.YtmlgidffgojkhaaQx4
import Derived.Test.YtmlgidffgojkhaaQx5
import Derived.Test.YtmlgidffgojkhaaQx6
import Derived.Test.YtmlgidffgojkhaaQx9
import Derived.Test.YtmlgidffgojkhaaWLast
import Derived.Test.YtmlgidffgojkhaaWWords
namespace Go.Proofs.Ytmlgidffgojkhaa.Pure
set_option linter.unusedVariables false
set_option linter.unusedSimpArgs false
open Go.RowKit Go.Proofs.Ytmlgidffgojkhaa.Q Go.Proofs.YtmlgidffgojkhaaW.PrintWords
open Go.RowKit Go.Proofs.Ytmlgidffgojkhaa.Q Go.Proofs.YtmlgidffgojkhaaW.PrintWords Go.Proofs.YtmlgidffgojkhaaW.PrintLast
open Go.RowKit Go.Proofs.Ytmlgidffgojkhaa.Q Go.Proofs.YtmlgidffgojkhaaW.PrintWords Go.Proofs.YtmlgidffgojkhaaW.PrintMore
open Go.RowKit Go.Proofs.YtmlgidffgojkhaaW.PrintWords Go.Proofs.YtmlgidffgojkhaaW.PrintLast

theorem more {α : Type} {f : Nat → Option α} (h : ∀ k, LeO (f k) (f (k + 1))) {k : Nat} {r : α} (hk : f k = some r) : ∀ {j : Nat}, k ≤ j → f j = some r := by
  intro j hj
  obtain ⟨d, rfl⟩ := Nat.le.dest hj
  clear hj
  induction d with
  | zero => exact hk
  | succ d ih => exact h _ _ ih
theorem wr64 (x : Int) (h0 : -9223372036854775808 ≤ x) (h1 : x ≤ 9223372036854775807) : wrap64 x = x := by unfold wrap64; omega
/-- A text's bytes, as numbers. -/
def bl (s : ByteArray) : List Int := s.data.toList.map fun b => (b.toNat : Int)
theorem bl_length (s : ByteArray) : (bl s).length = s.size := by unfold bl; rw [List.length_map, Array.length_toList]; rfl
theorem bl_at (s : ByteArray) (i : Nat) (h : i < s.size) : (bl s)[i]? = some (bt s (i : Int)) := by
  have h2 : i < s.data.size := h
  unfold bl bt
  rw [dif_pos (by simpa using h), List.getElem?_map, List.getElem?_eq_getElem (by simpa using h2)]
  simp [ByteArray.getElem_eq_getElem_data]
theorem bl_drop (s : ByteArray) (i : Nat) (h : i < s.size) : (bl s).drop i = bt s (i : Int) :: (bl s).drop (i + 1) := by
  have hl : i < (bl s).length := by rw [bl_length]; exact h
  have := bl_at s i h
  rw [List.getElem?_eq_getElem hl] at this
  rw [List.drop_eq_getElem_cons hl, Option.some.inj this]
/-- A glob means a name: 42 any text, 63 any one sign, else the sign itself. -/
inductive Gl : List Int → List Int → Prop
  | nil : Gl [] []
  | skip {g n} : Gl g n → Gl (42 :: g) n
  | take {g x n} : Gl (42 :: g) n → Gl (42 :: g) (x :: n)
  | one {c g x n} : c ≠ 42 → (c = 63 ∨ c = x) → Gl g n → Gl (c :: g) (x :: n)
theorem Gl.app {g1 n1 g2 n2 : List Int} (h : Gl g1 n1) (k : Gl g2 n2) : Gl (g1 ++ g2) (n1 ++ n2) := by
  induction h with
  | nil => exact k
  | skip _ ih => exact .skip ih
  | take _ ih => exact .take ih
  | one h1 h2 _ ih => exact .one h1 h2 ih
theorem Gl.star_any : ∀ n : List Int, Gl [42] n
  | [] => .skip .nil
  | _ :: n => .take (Gl.star_any n)
theorem Gl.star_more {g : List Int} (m : List Int) : ∀ {n : List Int}, Gl (42 :: g) n → Gl (42 :: g) (m ++ n) := by
  intro n h
  induction m with
  | nil => exact h
  | cons x m ih => exact .take ih
theorem Gl.star_inv {g n : List Int} (h : Gl (42 :: g) n) : ∃ m n', n = m ++ n' ∧ Gl g n' := by
  generalize hg : (42 :: g) = gg at h
  induction h with
  | nil => cases hg
  | skip h _ => injection hg with _ e; subst e; exact ⟨[], _, rfl, h⟩
  | take h ih =>
    obtain ⟨m, n', rfl, hn⟩ := ih hg
    exact ⟨_ :: m, n', rfl, hn⟩
  | one h1 _ _ _ => injection hg with e _; exact absurd e.symm h1
theorem Gl.star_iff {g n : List Int} : Gl (42 :: g) n ↔ ∃ i, i ≤ n.length ∧ Gl g (n.drop i) := by
  constructor
  · intro h
    obtain ⟨m, n', rfl, hn⟩ := h.star_inv
    exact ⟨m.length, by simp, by simpa using hn⟩
  · rintro ⟨i, hi, h⟩
    have := Gl.star_more (n.take i) (Gl.skip h)
    rwa [List.take_append_drop] at this
theorem Gl.one_iff {c x : Int} {g n : List Int} (hc : c ≠ 42) : Gl (c :: g) (x :: n) ↔ (c = 63 ∨ c = x) ∧ Gl g n := by
  constructor
  · intro h
    cases h with
    | skip => exact absurd rfl hc
    | take => exact absurd rfl hc
    | one _ h2 h3 => exact ⟨h2, h3⟩
  · rintro ⟨h2, h3⟩; exact .one hc h2 h3
theorem Gl.one_nil {c : Int} {g : List Int} (hc : c ≠ 42) : ¬ Gl (c :: g) [] := by
  intro h
  cases h with
  | skip => exact hc rfl
theorem Gl.nil_iff {n : List Int} : Gl [] n ↔ n = [] := by
  constructor
  · intro h; cases h; rfl
  · rintro rfl; exact .nil
theorem Gl.split {g1 g2 : List Int} : ∀ {n : List Int}, Gl (g1 ++ g2) n → ∃ n1 n2, n = n1 ++ n2 ∧ Gl g1 n1 ∧ Gl g2 n2 := by
  induction g1 with
  | nil => intro n h; exact ⟨[], n, rfl, .nil, h⟩
  | cons c g1 ih =>
    intro n h
    by_cases hc : c = 42
    · subst hc
      obtain ⟨m, n', rfl, hn⟩ := Gl.star_inv h
      obtain ⟨a, b, rfl, ha, hb⟩ := ih hn
      exact ⟨m ++ a, b, by simp, Gl.star_more m (.skip ha), hb⟩
    · cases n with
      | nil => exact absurd h (Gl.one_nil hc)
      | cons x n =>
        obtain ⟨h2, h3⟩ := (Gl.one_iff hc).1 h
        obtain ⟨a, b, rfl, ha, hb⟩ := ih h3
        exact ⟨x :: a, b, rfl, .one hc h2 ha, hb⟩
theorem Gl.app_iff {g1 g2 n : List Int} : Gl (g1 ++ g2) n ↔ ∃ n1 n2, n = n1 ++ n2 ∧ Gl g1 n1 ∧ Gl g2 n2 :=
  ⟨Gl.split, fun ⟨_, _, e, h1, h2⟩ => e ▸ h1.app h2⟩
def NoStar (g : List Int) : Prop := ∀ c ∈ g, c ≠ 42
theorem Gl.len {g : List Int} (h : NoStar g) : ∀ {n : List Int}, Gl g n → n.length = g.length := by
  induction g with
  | nil => intro n hh; rw [Gl.nil_iff.1 hh]
  | cons c g ih =>
    intro n hh
    have h1 := h c (List.mem_cons_self ..)
    cases n with
    | nil => exact absurd hh (Gl.one_nil h1)
    | cons x n =>
      have := ih (fun y hy => h y (List.mem_cons_of_mem _ hy)) ((Gl.one_iff h1).1 hh).2
      simp [this]
theorem Gl.stars {g : List Int} : Gl g [] ↔ ∀ c ∈ g, c = 42 := by
  induction g with
  | nil => simp [Gl.nil_iff]
  | cons c g ih =>
    by_cases hc : c = 42
    · subst hc
      rw [Gl.star_iff]
      constructor
      · rintro ⟨i, hi, h⟩
        have : i = 0 := by simpa using hi
        subst this
        intro x hx
        rcases List.mem_cons.1 hx with rfl | hx
        · rfl
        · exact ih.1 h x hx
      · intro h
        exact ⟨0, by simp, ih.2 (fun x hx => h x (List.mem_cons_of_mem _ hx))⟩
    · constructor
      · intro h; exact absurd h (Gl.one_nil hc)
      · intro h; exact absurd (h c (List.mem_cons_self ..)) hc
theorem match_end (s : ByteArray) (hs : s.size ≤ 4611686018427387904) : ∀ (d g : Nat), s.size - g = d → g ≤ s.size → ∃ k r, mask_Match.l1 k s (g : Int) = some r ∧ (r = true ↔ Gl ((bl s).drop g) []) := by
  intro d
  induction d with
  | zero =>
    intro g hd hg
    refine ⟨1, true, ?_, ?_⟩
    · rw [mask_Match.l1, if_neg (by omega)]
      have : (g : Int) = (s.size : Int) := by omega
      simp [this]
    · rw [List.drop_of_length_le (by rw [bl_length]; omega), Gl.nil_iff]; simp
  | succ d ih =>
    intro g hd hg
    have hlt : g < s.size := by omega
    rw [bl_drop s g hlt]
    by_cases hc : bt s (g : Int) = 42
    · obtain ⟨k, r, hk, hr⟩ := ih (g + 1) (by omega) (by omega)
      refine ⟨k + 1, r, ?_, ?_⟩
      · rw [mask_Match.l1, if_pos (by omega), if_pos (by omega), if_pos hc, wr64 _ (by omega) (by omega)]
        exact_mod_cast hk
      · rw [hr, hc, Gl.stars, Gl.stars]
        constructor
        · intro h x hx
          rcases List.mem_cons.1 hx with rfl | hx
          · rfl
          · exact h x hx
        · intro h x hx; exact h x (List.mem_cons_of_mem _ hx)
    · refine ⟨1, false, ?_, ?_⟩
      · rw [mask_Match.l1, if_pos (by omega), if_pos (by omega), if_neg hc]
        have : ¬ (g : Int) = (s.size : Int) := by omega
        simp [this]
      · constructor
        · intro h; cases h
        · intro h; exact absurd h (Gl.one_nil hc)
/-- What is still to be asked: from here on, or from the last star on behind a later place. -/
def Ans (G N : List Int) (sp fr g n : Nat) : Prop := Gl (G.drop g) (N.drop n) ∨ (0 < sp ∧ ∃ f, fr < f ∧ f ≤ N.length ∧ Gl (G.drop sp) (N.drop f))
theorem drop_seg (G : List Int) {sp g : Nat} (h : sp ≤ g) : G.drop sp = (G.drop sp).take (g - sp) ++ G.drop g := by
  have := List.take_append_drop (g - sp) (G.drop sp)
  rw [List.drop_drop, show sp + (g - sp) = g from by omega] at this
  exact this.symm
/-- What a later place of the last star would mean, the part up to here being without stars. -/
theorem later {G N : List Int} {sp fr g n f : Nat} (hg : sp ≤ g) (hgl : g ≤ G.length) (hns : NoStar ((G.drop sp).take (g - sp))) (hn : fr ≤ n) (heq : n - fr = g - sp) (hf : fr < f) (hfl : f ≤ N.length) (h : Gl (G.drop sp) (N.drop f)) :
    f + (n - fr) ≤ N.length ∧ Gl (G.drop g) (N.drop (f + (n - fr))) := by
  rw [drop_seg G hg] at h
  obtain ⟨n1, n2, e, h1, h2⟩ := Gl.split h
  have hl := Gl.len hns h1
  rw [List.length_take, List.length_drop, Nat.min_eq_left (by omega)] at hl
  have he : n2 = N.drop (f + (n - fr)) := by
    have := congrArg (List.drop n1.length) e
    rw [List.drop_drop, List.drop_left, hl] at this
    rw [← this, heq]
  have hlen := congrArg List.length e
  rw [List.length_drop, List.length_append, hl] at hlen
  exact ⟨by omega, he ▸ h2⟩
theorem match_from (s t : ByteArray) (hs : s.size ≤ 4611686018427387904) (ht : t.size ≤ 4611686018427387904) (sp fr g n : Nat) (hg : g ≤ s.size) (hn : n ≤ t.size) (hsp : sp ≤ g) (hst : 0 < sp → fr ≤ n ∧ n - fr = g - sp ∧ NoStar (((bl s).drop sp).take (g - sp))) (hfr : fr ≤ n) :
    ∃ k r, mask_Match.l0 k s t ((sp : Int) - 1) (fr : Int) (g : Int) (n : Int) = some r ∧ (r = true ↔ Ans (bl s) (bl t) sp fr g n) := by
  by_cases hnl : n < t.size
  · -- a later place of the last star, where the step from here fails
    have back : (¬ Gl ((bl s).drop g) ((bl t).drop n)) → (∃ k r, mask_Match.j2 k s t ((sp : Int) - 1) (fr : Int) (g : Int) (n : Int) false = some r ∧ (r = true ↔ Ans (bl s) (bl t) sp fr g n)) := by
      intro hno
      by_cases h0 : 0 < sp
      · obtain ⟨h1, h2, h3⟩ := hst h0
        obtain ⟨k, r, hk, hr⟩ := match_from s t hs ht sp (fr + 1) sp (fr + 1) (by omega) (by omega) (by omega) (fun _ => ⟨by omega, by omega, by simp [NoStar]⟩) (by omega)
        refine ⟨k + 1, r, ?_, ?_⟩
        · rw [mask_Match.j2, if_neg (by decide), if_pos (by omega), wr64 _ (by omega) (by omega), wr64 _ (by omega) (by omega), show (sp : Int) - 1 + 1 = (sp : Int) from by omega]
          exact_mod_cast hk
        · rw [hr]
          unfold Ans
          constructor
          · rintro (h | ⟨_, f, hf, hf2, h⟩)
            · exact .inr ⟨h0, fr + 1, by omega, by rw [bl_length]; omega, h⟩
            · exact .inr ⟨h0, f, by omega, hf2, h⟩
          · rintro (h | ⟨_, f, hf, hf2, h⟩)
            · exact absurd h hno
            · by_cases he : f = fr + 1
              · exact .inl (he ▸ h)
              · exact .inr ⟨h0, f, by omega, hf2, h⟩
      · refine ⟨1, false, ?_, ?_⟩
        · rw [mask_Match.j2, if_neg (by decide), if_neg (by omega)]
        · constructor
          · intro h; cases h
          · rintro (h | ⟨h, _⟩)
            · exact absurd h hno
            · exact absurd h h0
    by_cases hgl : g < s.size
    · have hd := bl_drop s g hgl
      have hdn := bl_drop t n hnl
      by_cases hstar : bt s (g : Int) = 42
      · -- a new star
        obtain ⟨k, r, hk, hr⟩ := match_from s t hs ht (g + 1) n (g + 1) n (by omega) (by omega) (by omega) (fun _ => ⟨by omega, by omega, by simp [NoStar]⟩) (by omega)
        refine ⟨k + 1 + 1, r, ?_, ?_⟩
        · rw [mask_Match.l0, if_pos (by omega), if_pos (by omega), if_pos (by omega), mask_Match.j1, if_pos (by simp [hstar]), wr64 _ (by omega) (by omega)]
          have : ((g + 1 : Nat) : Int) - 1 = (g : Int) := by omega
          rw [this] at hk
          exact_mod_cast hk
        · rw [hr]
          unfold Ans
          rw [hd, hstar, Gl.star_iff]
          have hN : ((bl t).drop n).length = t.size - n := by rw [List.length_drop, bl_length]
          constructor
          · rintro (h | ⟨_, f, hf, hf2, h⟩)
            · exact .inl ⟨0, by omega, by simpa using h⟩
            · rw [bl_length] at hf2
              refine .inl ⟨f - n, by omega, ?_⟩
              rw [List.drop_drop, show n + (f - n) = f from by omega]
              exact h
          · rintro (⟨i, hi, h⟩ | ⟨h0, f, hf, hf2, h⟩)
            · rw [List.drop_drop] at h
              by_cases hi0 : i = 0
              · subst hi0; exact .inl (by simpa using h)
              · exact .inr ⟨by omega, n + i, by omega, by rw [bl_length]; omega, h⟩
            · obtain ⟨h1, h2, h3⟩ := hst h0
              obtain ⟨h4, h5⟩ := later (by omega) (by rw [bl_length]; omega) h3 h1 h2 hf hf2 h
              rw [hd, hstar, Gl.star_iff] at h5
              obtain ⟨i, hi, h5⟩ := h5
              rw [List.drop_drop] at h5
              rw [List.length_drop] at hi
              rw [bl_length] at hi h4
              exact .inr ⟨by omega, f + (n - fr) + i, by omega, by rw [bl_length]; omega, h5⟩
      · -- a sign
        have step : ∀ b, (b = true ↔ (bt s (g : Int) = 63 ∨ bt s (g : Int) = bt t (n : Int))) → ∃ k r, mask_Match.j2 k s t ((sp : Int) - 1) (fr : Int) (g : Int) (n : Int) b = some r ∧ (r = true ↔ Ans (bl s) (bl t) sp fr g n) := by
          intro b hb
          cases b with
          | true =>
            obtain ⟨k, r, hk, hr⟩ := match_from s t hs ht sp fr (g + 1) (n + 1) (by omega) (by omega) (by omega) (fun h0 => by
              obtain ⟨h1, h2, h3⟩ := hst h0
              refine ⟨by omega, by omega, ?_⟩
              have hl : ((bl s).drop sp)[g - sp]? = some (bt s (g : Int)) := by
                rw [List.getElem?_drop, show sp + (g - sp) = g from by omega]
                exact bl_at s g hgl
              rw [show g + 1 - sp = (g - sp) + 1 from by omega, List.take_add_one, hl]
              intro c hc
              rcases List.mem_append.1 hc with hc | hc
              · exact h3 c hc
              · have : c = bt s (g : Int) := by simpa using hc
                rw [this]; exact hstar) (by omega)
            refine ⟨k + 1, r, ?_, ?_⟩
            · rw [mask_Match.j2, if_pos rfl, wr64 _ (by omega) (by omega), wr64 _ (by omega) (by omega)]
              exact_mod_cast hk
            · rw [hr]
              unfold Ans
              rw [hd, hdn, Gl.one_iff hstar]
              constructor
              · rintro (h | h)
                · exact .inl ⟨hb.1 rfl, h⟩
                · exact .inr h
              · rintro (h | h)
                · exact .inl h.2
                · exact .inr h
          | false =>
            refine back ?_
            rw [hd, hdn, Gl.one_iff hstar]
            rintro ⟨h, _⟩
            exact absurd (hb.2 h) (by decide)
        by_cases hq : bt s (g : Int) = 63
        · obtain ⟨k, r, hk, hr⟩ := step true ⟨fun _ => .inl hq, fun _ => rfl⟩
          refine ⟨k + 1 + 1, r, ?_, hr⟩
          rw [mask_Match.l0, if_pos (by omega), if_pos (by omega), if_pos (by omega), mask_Match.j1, if_neg (by simp [hstar]), if_pos (by omega), if_pos (by omega), if_pos hq]
          exact hk
        · obtain ⟨k, r, hk, hr⟩ := step (bt s (g : Int) == bt t (n : Int)) ⟨fun h => .inr (by simpa using h), fun h => by
            rcases h with h | h
            · exact absurd h hq
            · simpa using h⟩
          refine ⟨k + 1 + 1, r, ?_, hr⟩
          rw [mask_Match.l0, if_pos (by omega), if_pos (by omega), if_pos (by omega), mask_Match.j1, if_neg (by simp [hstar]), if_pos (by omega), if_pos (by omega), if_neg hq, if_pos (by omega), if_pos (by omega)]
          exact hk
    · obtain ⟨k, r, hk, hr⟩ := back (by
        rw [List.drop_of_length_le (by rw [bl_length]; omega), Gl.nil_iff, bl_drop t n hnl]
        simp)
      refine ⟨k + 1 + 1, r, ?_, hr⟩
      rw [mask_Match.l0, if_pos (by omega), if_neg (by omega), mask_Match.j1, if_neg (by decide), if_neg (by omega)]
      exact hk
  · obtain ⟨k, r, hk, hr⟩ := match_end s hs _ g rfl hg
    have hnt : n = t.size := by omega
    refine ⟨k + 1, r, ?_, ?_⟩
    · rw [mask_Match.l0, if_neg (by omega)]
      exact hk
    · rw [hr]
      unfold Ans
      rw [List.drop_of_length_le (show (bl t).length ≤ n by rw [bl_length]; omega)]
      constructor
      · exact .inl
      · rintro (h | ⟨h0, f, hf, hf2, h⟩)
        · exact h
        · obtain ⟨h1, h2, h3⟩ := hst h0
          obtain ⟨h4, _⟩ := later (by omega) (by rw [bl_length]; omega) h3 h1 h2 hf hf2 h
          rw [bl_length] at h4
          omega
termination_by (s.size + 1 - sp, t.size + 1 - fr, t.size + 1 - n)
theorem match_is (s t : ByteArray) (hs : s.size ≤ 4611686018427387904) (ht : t.size ≤ 4611686018427387904) : ∃ k r, mask_Match.f k s t = some r ∧ (r = true ↔ Gl (bl s) (bl t)) := by
  obtain ⟨k, r, hk, hr⟩ := match_from s t hs ht 0 0 0 0 (by omega) (by omega) (by omega) (fun h => absurd h (by omega)) (by omega)
  refine ⟨k, r, hk, ?_⟩
  rw [hr]
  unfold Ans
  simp
theorem Gl.end_star {g N : List Int} {k : Nat} (hk : k ≤ N.length) : Gl (g ++ [42]) (N.take k) ↔ ∃ j, j ≤ k ∧ Gl g (N.take j) := by
  rw [Gl.app_iff]
  constructor
  · rintro ⟨n1, n2, e, h1, _⟩
    have hl : n1.length ≤ k := by
      have := congrArg List.length e
      rw [List.length_take, List.length_append] at this
      omega
    refine ⟨n1.length, hl, ?_⟩
    have : N.take n1.length = n1 := by
      have h2 := congrArg (List.take n1.length) e
      rw [List.take_take, List.take_left, Nat.min_eq_left hl] at h2
      exact h2
    rw [this]; exact h1
  · rintro ⟨j, hj, h⟩
    refine ⟨N.take j, (N.take k).drop j, ?_, h, Gl.star_any _⟩
    have := List.take_append_drop j (N.take k)
    rw [List.take_take, Nat.min_eq_left hj] at this
    exact this.symm
theorem Gl.end_star_step {g N : List Int} {k : Nat} (hk : k ≤ N.length) : Gl (g ++ [42]) (N.take k) ↔ Gl g (N.take k) ∨ (0 < k ∧ Gl (g ++ [42]) (N.take (k - 1))) := by
  rw [Gl.end_star hk, Gl.end_star (show k - 1 ≤ N.length by omega)]
  constructor
  · rintro ⟨j, hj, h⟩
    by_cases he : j = k
    · exact .inl (he ▸ h)
    · exact .inr ⟨by omega, j, by omega, h⟩
  · rintro (h | ⟨_, j, hj, h⟩)
    · exact ⟨k, by omega, h⟩
    · exact ⟨j, by omega, h⟩
theorem Gl.end_none {g : List Int} {c : Int} (hc : c ≠ 42) : ¬ Gl (g ++ [c]) [] := by
  rw [Gl.app_iff]
  rintro ⟨n1, n2, e, h1, h2⟩
  have : n2 = [] := by
    cases n2 with
    | nil => rfl
    | cons a b => simp at e
  rw [this] at h2
  exact Gl.one_nil hc h2
theorem Gl.end_one {g n : List Int} {c x : Int} (hc : c ≠ 42) : Gl (g ++ [c]) (n ++ [x]) ↔ (c = 63 ∨ c = x) ∧ Gl g n := by
  rw [Gl.app_iff]
  constructor
  · rintro ⟨n1, n2, e, h1, h2⟩
    cases n2 with
    | nil => exact absurd h2 (Gl.one_nil hc)
    | cons y n2 =>
      obtain ⟨h3, h4⟩ := (Gl.one_iff hc).1 h2
      rw [Gl.nil_iff] at h4
      subst h4
      obtain ⟨rfl, h5⟩ := List.append_inj' e rfl
      injection h5 with h5 _
      subst h5
      exact ⟨h3, h1⟩
  · rintro ⟨h, h1⟩
    exact ⟨n, [x], rfl, h1, (Gl.one_iff hc).2 ⟨h, .nil⟩⟩
/-- A row of answers: which beginnings does this beginning of the glob mean? Filled up to m; from there on false. -/
def Row (G N : List Int) (m : Nat) (r : List Bool) : Prop := r.length = N.length + 1 ∧ ∀ k, k ≤ N.length → (r.getD k false = true ↔ k < m ∧ Gl G (N.take k))
theorem Row.set {G N : List Int} {m : Nat} {r : List Bool} (h : Row G N m r) (hm : m ≤ N.length) (b : Bool) (hb : b = true ↔ Gl G (N.take m)) : Row G N (m + 1) (r.set m b) := by
  refine ⟨by rw [List.length_set]; exact h.1, fun k hk => ?_⟩
  have hr := h.2 k hk
  by_cases he : k = m
  · subst he
    have : (r.set k b).getD k false = b := by simp [List.getD, h.1, Nat.lt_succ_of_le hk]
    rw [this, hb]
    exact ⟨fun x => ⟨by omega, x⟩, fun x => x.2⟩
  · have : (r.set m b).getD k false = r.getD k false := by simp [List.getD, Ne.symm he]
    rw [this, hr]
    constructor
    · rintro ⟨h1, h2⟩; exact ⟨by omega, h2⟩
    · rintro ⟨h1, h2⟩; exact ⟨by omega, h2⟩
theorem Row.leave {G N : List Int} {m : Nat} {r : List Bool} (h : Row G N m r) (hm : m ≤ N.length) (hb : ¬ Gl G (N.take m)) : Row G N (m + 1) r := by
  refine ⟨h.1, fun k hk => ?_⟩
  rw [h.2 k hk]
  by_cases he : k = m
  · subst he
    exact ⟨fun x => absurd x.1 (by omega), fun x => absurd x.2 hb⟩
  · constructor
    · rintro ⟨h1, h2⟩; exact ⟨by omega, h2⟩
    · rintro ⟨h1, h2⟩; exact ⟨by omega, h2⟩
theorem Row.none (G N : List Int) : Row G N 0 (List.replicate (N.length + 1) false) := by
  refine ⟨by simp, fun k hk => ?_⟩
  have : (List.replicate (N.length + 1) false).getD k false = false := by
    simp only [List.getD, List.getElem?_replicate]
    split <;> rfl
  rw [this]
  simp
def IsRow (G N : List Int) (r : List Bool) : Prop := Row G N (N.length + 1) r
theorem Row.first (N : List Int) : IsRow [] N ((List.replicate (N.length + 1) false).set 0 true) := by
  refine ⟨by simp, fun k hk => ?_⟩
  rw [Gl.nil_iff]
  by_cases he : k = 0
  · subst he; simp [List.getD]
  · have : ((List.replicate (N.length + 1) false).set 0 true).getD k false = false := by
      simp only [List.getD, List.getElem?_set, if_neg (Ne.symm he), List.getElem?_replicate]
      split <;> rfl
    rw [this]
    constructor
    · intro h; cases h
    · rintro ⟨_, h⟩
      have := congrArg List.length h
      rw [List.length_take] at this
      simp at this
      rcases this with h | h
      · exact absurd h he
      · subst h; simp at hk; exact absurd hk he
theorem take_next (s : ByteArray) (i : Nat) (h : i < s.size) : (bl s).take (i + 1) = (bl s).take i ++ [bt s (i : Int)] := by
  rw [List.take_add_one, bl_at s i h]; rfl
theorem ref_match (s t : ByteArray) (hs : s.size ≤ 140737488355328) (ht : t.size ≤ 140737488355328) : ∀ (d i : Nat), s.size - i = d → i ≤ s.size → ∀ is : List Bool, IsRow ((bl s).take i) (bl t) is → ∃ k r, latheref11_Match.l0 k s t is (i : Int) = some r ∧ (r = true ↔ Gl (bl s) (bl t)) := by
  have hN : (bl t).length = t.size := bl_length t
  intro d
  induction d with
  | zero =>
    intro i hd hi is hr
    refine ⟨1, is.getD t.size false, ?_, ?_⟩
    · rw [latheref11_Match.l0, if_neg (by omega), if_pos (by omega), if_pos (by rw [hr.1, hN]; omega)]
      rfl
    · rw [hr.2 _ (by omega), List.take_of_length_le (show (bl t).length ≤ t.size by omega), List.take_of_length_le (show (bl s).length ≤ i by rw [bl_length]; omega)]
      exact ⟨fun h => h.2, fun h => ⟨by omega, h⟩⟩
  | succ d ih =>
    intro i hd hi is hr
    have hlt : i < s.size := by omega
    have inner : ∀ (e m : Nat), t.size + 1 - m = e → m ≤ t.size + 1 → ∀ next : List Bool, Row ((bl s).take (i + 1)) (bl t) m next → ∃ k r, latheref11_Match.l1 k s t is (i : Int) next (m : Int) = some r ∧ (r = true ↔ Gl (bl s) (bl t)) := by
      intro e
      induction e with
      | zero =>
        intro m he hm next hn
        have : m = (bl t).length + 1 := by omega
        subst this
        obtain ⟨k, r, hk, h⟩ := ih (i + 1) (by omega) (by omega) next hn
        refine ⟨k + 1, r, ?_, h⟩
        rw [latheref11_Match.l1, if_neg (by omega), wr64 _ (by omega) (by omega)]
        exact_mod_cast hk
      | succ e ih2 =>
        intro m he hm next hn
        have hmt : m ≤ t.size := by omega
        have goOn : ∀ next', Row ((bl s).take (i + 1)) (bl t) (m + 1) next' → ∃ k r, latheref11_Match.l1 k s t is (i : Int) next' (wrap64 ((m : Int) + 1)) = some r ∧ (r = true ↔ Gl (bl s) (bl t)) := by
          intro next' hn'
          obtain ⟨k, r, hk, h⟩ := ih2 (m + 1) (by omega) (by omega) next' hn'
          refine ⟨k, r, ?_, h⟩
          rw [wr64 _ (by omega) (by omega)]
          exact_mod_cast hk
        have hlen := hn.1
        have hlis := hr.1
        have ht1 := take_next s i hlt
        by_cases hstar : bt s (i : Int) = 42
        · have hstep := @Gl.end_star_step ((bl s).take i) (bl t) m (by omega)
          by_cases his : is.getD m false = true
          · obtain ⟨k, r, hk, h⟩ := goOn _ (hn.set (by omega) true (by rw [ht1, hstar, hstep]; exact ⟨fun _ => .inl ((hr.2 m (by omega)).1 his).2, fun _ => rfl⟩))
            refine ⟨k + 1, r, ?_, h⟩
            rw [latheref11_Match.l1, if_pos (by omega), if_pos (by omega), if_pos (by omega), if_pos hstar, if_pos (by omega), if_pos (by omega), if_pos (show rdOf false is (m : Int) = true from his), if_pos (by omega)]
            exact hk
          · have hno : ¬ Gl ((bl s).take i) ((bl t).take m) := fun x => his ((hr.2 m (by omega)).2 ⟨by omega, x⟩)
            by_cases hm0 : 0 < m
            · have hw : wrap64 ((m : Int) - 1) = ((m - 1 : Nat) : Int) := by rw [wr64 _ (by omega) (by omega)]; omega
              obtain ⟨k, r, hk, h⟩ := goOn _ (hn.set (by omega) (next.getD (m - 1) false) (by
                rw [hn.2 _ (by omega), ht1, hstar, hstep]
                constructor
                · rintro ⟨_, x⟩; exact .inr ⟨hm0, x⟩
                · rintro (x | ⟨_, x⟩)
                  · exact absurd x hno
                  · exact ⟨by omega, x⟩))
              refine ⟨k + 1, r, ?_, h⟩
              rw [latheref11_Match.l1, if_pos (by omega), if_pos (by omega), if_pos (by omega), if_pos hstar, if_pos (by omega), if_pos (by omega), if_neg (show ¬ rdOf false is (m : Int) = true from his), if_pos (by omega), if_pos (by omega), if_pos (by omega), if_pos (by omega), hw]
              exact hk
            · obtain ⟨k, r, hk, h⟩ := goOn _ (hn.set (by omega) false (by
                rw [ht1, hstar, hstep]
                constructor
                · intro x; cases x
                · rintro (x | ⟨x, _⟩)
                  · exact absurd x hno
                  · exact absurd x hm0))
              refine ⟨k + 1, r, ?_, h⟩
              rw [latheref11_Match.l1, if_pos (by omega), if_pos (by omega), if_pos (by omega), if_pos hstar, if_pos (by omega), if_pos (by omega), if_neg (show ¬ rdOf false is (m : Int) = true from his), if_neg (by omega), if_pos (by omega)]
              exact hk
        · by_cases hm0 : 0 < m
          · have hw : wrap64 ((m : Int) - 1) = ((m - 1 : Nat) : Int) := by rw [wr64 _ (by omega) (by omega)]; omega
            have htm : (bl t).take m = (bl t).take (m - 1) ++ [bt t ((m - 1 : Nat) : Int)] := by
              have := take_next t (m - 1) (by omega)
              rwa [show m - 1 + 1 = m from by omega] at this
            have hstep : Gl ((bl s).take (i + 1)) ((bl t).take m) ↔ (bt s (i : Int) = 63 ∨ bt s (i : Int) = bt t ((m - 1 : Nat) : Int)) ∧ Gl ((bl s).take i) ((bl t).take (m - 1)) := by
              rw [ht1, htm, Gl.end_one hstar]
            have hset : (bt s (i : Int) = 63 ∨ bt s (i : Int) = bt t ((m - 1 : Nat) : Int)) → ∃ k r, latheref11_Match.l1 k s t is (i : Int) (next.set m (is.getD (m - 1) false)) (wrap64 ((m : Int) + 1)) = some r ∧ (r = true ↔ Gl (bl s) (bl t)) := by
              intro hor
              refine goOn _ (hn.set (by omega) _ ?_)
              rw [hstep, hr.2 _ (by omega)]
              exact ⟨fun x => ⟨hor, x.2⟩, fun x => ⟨by omega, x.2⟩⟩
            by_cases hq : bt s (i : Int) = 63
            · obtain ⟨k, r, hk, h⟩ := hset (.inl hq)
              refine ⟨k + 1, r, ?_, h⟩
              rw [latheref11_Match.l1, if_pos (by omega), if_pos (by omega), if_pos (by omega), if_neg hstar, if_pos (by omega), if_pos hq, hw, if_pos (by omega), if_pos (by omega), if_pos (by omega), if_pos (by omega)]
              exact hk
            · by_cases hx : bt s (i : Int) = bt t ((m - 1 : Nat) : Int)
              · obtain ⟨k, r, hk, h⟩ := hset (.inr hx)
                refine ⟨k + 1, r, ?_, h⟩
                rw [latheref11_Match.l1, if_pos (by omega), if_pos (by omega), if_pos (by omega), if_neg hstar, if_pos (by omega), if_neg hq, hw, if_pos (by omega), if_pos (by omega), if_pos hx, if_pos (by omega), if_pos (by omega), if_pos (by omega)]
                exact hk
              · obtain ⟨k, r, hk, h⟩ := goOn next (hn.leave (by omega) (by
                  rw [hstep]
                  rintro ⟨x | x, _⟩
                  · exact hq x
                  · exact hx x))
                refine ⟨k + 1, r, ?_, h⟩
                rw [latheref11_Match.l1, if_pos (by omega), if_pos (by omega), if_pos (by omega), if_neg hstar, if_pos (by omega), if_neg hq, hw, if_pos (by omega), if_pos (by omega), if_neg hx]
                exact hk
          · obtain ⟨k, r, hk, h⟩ := goOn next (hn.leave (by omega) (by
              have : m = 0 := by omega
              subst this
              rw [ht1]
              exact Gl.end_none hstar))
            refine ⟨k + 1, r, ?_, h⟩
            rw [latheref11_Match.l1, if_pos (by omega), if_pos (by omega), if_pos (by omega), if_neg hstar, if_neg (by omega)]
            exact hk
    obtain ⟨k, r, hk, h⟩ := inner (t.size + 1) 0 (by omega) (by omega) _ (Row.none _ _)
    refine ⟨k + 1, r, ?_, h⟩
    have hw : wrap64 ((t.size : Int) + 1) = ((t.size + 1 : Nat) : Int) := by rw [wr64 _ (by omega) (by omega)]; omega
    rw [latheref11_Match.l0, if_pos (by omega), hw, Int.toNat_natCast, if_pos (by omega), if_pos (by omega), ← hN]
    exact_mod_cast hk
theorem ref_match_is (s t : ByteArray) (hs : s.size ≤ 140737488355328) (ht : t.size ≤ 140737488355328) : ∃ k r, latheref11_Match.f k s t = some r ∧ (r = true ↔ Gl (bl s) (bl t)) := by
  obtain ⟨k, r, hk, h⟩ := ref_match s t hs ht _ 0 rfl (by omega) _ (Row.first (bl t))
  refine ⟨k, r, ?_, h⟩
  have hw : wrap64 ((t.size : Int) + 1) = ((t.size + 1 : Nat) : Int) := by rw [wr64 _ (by omega) (by omega)]; omega
  unfold latheref11_Match.f
  rw [hw, Int.toNat_natCast, if_pos (by omega), if_pos (by omega), Option.bind_some, if_pos (by simp), ← bl_length t]
  exact hk
theorem bool_eq {a b : Bool} {P : Prop} (h1 : a = true ↔ P) (h2 : b = true ↔ P) : a = b := by
  cases a <;> cases b <;> simp_all
/-- Both answer alike. -/
theorem matches_same (s t : ByteArray) (hs : s.size ≤ 140737488355328) (ht : t.size ≤ 140737488355328) : ∃ k r, mask_Match.f k s t = some r ∧ latheref11_Match.f k s t = some r ∧ (r = true ↔ Gl (bl s) (bl t)) := by
  obtain ⟨k1, r1, h1, g1⟩ := match_is s t (by omega) (by omega)
  obtain ⟨k2, r2, h2, g2⟩ := ref_match_is s t hs ht
  have : r1 = r2 := bool_eq g1 g2
  subst this
  exact ⟨max k1 k2, r1, more (mask_Match.mono s t) h1 (Nat.le_max_left ..), more (latheref11_Match.mono s t) h2 (Nat.le_max_right ..), g1⟩
abbrev Nd := S29
mutual
def dep : Nd → Nat
  | ⟨_, _, _, _, _, l, _⟩ => depL l + 1
def depL : List Nd → Nat
  | [] => 0
  | y :: ys => max (dep y) (depL ys)
end
mutual
def cnt : Nd → Nat
  | ⟨_, _, _, _, _, l, _⟩ => cntL l + 1
def cntL : List Nd → Nat
  | [] => 0
  | y :: ys => cnt y + cntL ys
end
theorem dep_eq (x : Nd) : dep x = depL x.f5 + 1 := by cases x; rfl
theorem cnt_eq (x : Nd) : cnt x = cntL x.f5 + 1 := by cases x; rfl
theorem tree_ind {P : Nd → Prop} (h : ∀ x : Nd, (∀ y ∈ x.f5, P y) → P x) (x : Nd) : P x := h x (fun y hy => tree_ind h y)
termination_by SizeOf.sizeOf x
decreasing_by
  have := List.sizeOf_lt_of_mem hy
  cases x
  simp only [S29.mk.sizeOf_spec] at *
  omega
theorem ok_inv {x : Nd} (h : ok29 x) : (Lit.int .i64 x.f0).wf = true ∧ x.f1.size ≤ 140737488351232 ∧ x.f4.size ≤ 140737488351232 ∧ x.f5.length ≤ 1599289640354 ∧ (∀ y ∈ x.f5, ok29 y) ∧ (Lit.int .i64 x.f6).wf = true := by
  cases h with
  | mk _ h0 h1 h2 h3 h4 h5 g5 h6 =>
    have hb : Try.prog.bytesOf 29 = 88 := by kernel_rfl
    rw [hb] at h5
    exact ⟨h0, h1, h4, by omega, g5, h6⟩
theorem dep_le_cnt : ∀ x : Nd, dep x ≤ cnt x := by
  have key : ∀ ys : List Nd, (∀ y ∈ ys, dep y ≤ cnt y) → depL ys ≤ cntL ys := by
    intro ys
    induction ys with
    | nil => intro _; exact Nat.le_refl _
    | cons y ys ih =>
      intro h
      have h1 := h y (List.mem_cons_self ..)
      have h2 := ih (fun z hz => h z (List.mem_cons_of_mem _ hz))
      simp only [depL, cntL]
      omega
  intro x
  induction x using tree_ind with
  | h x ih => rw [dep_eq, cnt_eq]; have := key x.f5 ih; omega
theorem dep_mem {y : Nd} : ∀ {ys : List Nd}, y ∈ ys → dep y ≤ depL ys
  | z :: zs, h => by
    simp only [depL]
    rcases List.mem_cons.1 h with rfl | h
    · omega
    · have := dep_mem h; omega
theorem drop_rd {l : List Nd} {i : Nat} {y : Nd} {ys : List Nd} (h : l.drop i = y :: ys) : i < l.length ∧ rd_T29 l (i : Int) = y ∧ l.drop (i + 1) = ys ∧ y ∈ l := by
  have hi : i < l.length := by
    rcases Nat.lt_or_ge i l.length with h1 | h1
    · exact h1
    · rw [List.drop_of_length_le h1] at h; cases h
  rw [List.drop_eq_getElem_cons hi] at h
  injection h with h1 h2
  refine ⟨hi, ?_, h2, h1 ▸ List.getElem_mem hi⟩
  unfold rd_T29
  rw [Int.toNat_natCast, List.getD_eq_getElem?_getD, List.getElem?_eq_getElem hi, h1]
  rfl
theorem drop_end {l : List Nd} {i : Nat} (hi : i ≤ l.length) (h : l.drop i = []) : i = l.length := by
  have := congrArg List.length h
  rw [List.length_drop] at this
  simp at this
  omega
theorem ref_depth : ∀ x : Nd, ok29 x → dep x ≤ 1000000 → ∃ k, latheref07_Depth.f k x.f0 x.f1 x.f2 x.f3 x.f4 x.f5 x.f6 = some (dep x : Int) := by
  intro x
  induction x using tree_ind with
  | h x ih =>
    intro hx hd
    obtain ⟨_, _, _, hlen, hmem, _⟩ := ok_inv hx
    have hdd := dep_eq x
    have key : ∀ (ys : List Nd) (i m : Nat), i ≤ x.f5.length → x.f5.drop i = ys → m ≤ 1000000 → (∀ y ∈ ys, dep y ≤ 1000000) → ∃ k, latheref07_Depth.l0 k (m : Int) (i : Int) x.f0 x.f1 x.f2 x.f3 x.f4 x.f5 x.f6 = some ((max m (depL ys) + 1 : Nat) : Int) := by
      intro ys
      induction ys with
      | nil =>
        intro i m hi h hm _
        have := drop_end hi h
        refine ⟨1, ?_⟩
        rw [latheref07_Depth.l0, if_neg (by omega), wr64 _ (by omega) (by omega)]
        simp [depL]
      | cons y ys ih2 =>
        intro i m hi h hm hys
        obtain ⟨hlt, hrd, hnext, hy⟩ := drop_rd h
        have hdy := hys y (List.mem_cons_self ..)
        obtain ⟨k1, h1⟩ := ih y hy (hmem y hy) hdy
        obtain ⟨k2, h2⟩ := ih2 (i + 1) (max m (dep y)) (by omega) hnext (by omega) (fun z hz => hys z (List.mem_cons_of_mem _ hz))
        refine ⟨max k1 k2 + 1, ?_⟩
        rw [latheref07_Depth.l0, if_pos (by omega), if_pos (by omega), hrd, more (fun k => latheref07_Depth.mono _ _ _ _ _ _ _ k) h1 (Nat.le_max_left k1 k2), Option.bind_some]
        have e1 : mx (m : Int) (dep y : Int) = ((max m (dep y) : Nat) : Int) := by unfold mx; split <;> omega
        have e2 : wrap64 ((i : Int) + 1) = ((i + 1 : Nat) : Int) := by rw [wr64 _ (by omega) (by omega)]; omega
        rw [e1, e2, more (fun k => (latheref07_Depth.mono_l k).2 _ _ _ _ _ _ _ _ _) h2 (Nat.le_max_right k1 k2)]
        simp only [depL, Nat.max_assoc]
    obtain ⟨k, hk⟩ := key x.f5 0 0 (by omega) rfl (by omega) (fun y hy => by have := dep_mem hy; omega)
    refine ⟨k + 1, ?_⟩
    rw [latheref07_Depth.f, hdd]
    rw [Nat.zero_max] at hk
    exact hk
theorem walk_depth : ∀ x : Nd, ∀ d s : Nat, d + dep x ≤ 2000000 → ∃ k, tree_walk.g tree_Depth.step k x (d : Int) (s : Int) = some ((max s (d + dep x - 1) : Nat) : Int) := by
  intro x
  induction x using tree_ind with
  | h x ih =>
    intro d s hd
    have hdd := dep_eq x
    have key : ∀ (ys : List Nd) (s : Nat), (∀ y ∈ ys, y ∈ x.f5) → d ≤ s → ∃ k, tree_walk.gl tree_Depth.step k ys (d : Int) (s : Int) = some ((max s (d + depL ys) : Nat) : Int) := by
      intro ys
      induction ys with
      | nil => intro s _ hs; exact ⟨1, by rw [tree_walk.gl]; simp [depL]; omega⟩
      | cons y ys ih2 =>
        intro s hsub hs
        have hy := hsub y (List.mem_cons_self ..)
        have hdy := dep_mem hy
        obtain ⟨k1, h1⟩ := ih y hy (d + 1) s (by omega)
        obtain ⟨k2, h2⟩ := ih2 (max s (d + 1 + dep y - 1)) (fun z hz => hsub z (List.mem_cons_of_mem _ hz)) (by omega)
        refine ⟨max k1 k2 + 1, ?_⟩
        have e2 : wrap64 ((d : Int) + 1) = ((d + 1 : Nat) : Int) := by rw [wr64 _ (by omega) (by omega)]; omega
        rw [tree_walk.gl, e2, more (fun k => (tree_walk.mono_l _ k).1 _ _ _) h1 (Nat.le_max_left k1 k2), Option.bind_some, more (fun k => (tree_walk.mono_l _ k).2 _ _ _) h2 (Nat.le_max_right k1 k2)]
        simp only [depL]
        congr 2
        omega
    obtain ⟨k, hk⟩ := key x.f5 (max s d) (fun _ h => h) (by omega)
    refine ⟨k + 1, ?_⟩
    have e1 : mx (s : Int) (d : Int) = ((max s d : Nat) : Int) := by unfold mx; split <;> omega
    rw [tree_walk.g, tree_Depth.step, e1, Option.bind_some, hk]
    congr 2
    omega
theorem its_depth (x : Nd) (hd : dep x ≤ 1000000) : ∃ k, tree_Depth.f k x.f0 x.f1 x.f2 x.f3 x.f4 x.f5 x.f6 = some (dep x : Int) := by
  have h0 := dep_eq x
  obtain ⟨k, hk⟩ := walk_depth x 1 0 (by omega)
  refine ⟨k, ?_⟩
  unfold tree_Depth.f
  have : max 0 (1 + dep x - 1) = dep x := by omega
  rw [this] at hk
  cases x
  exact_mod_cast hk
abbrev Pm := S45
noncomputable def mt (g n : ByteArray) : Bool := @decide (Gl (bl g) (bl n)) (Classical.propDecidable _)
theorem match_mt (s t : ByteArray) (hs : s.size ≤ 140737488355328) (ht : t.size ≤ 140737488355328) : ∃ k, mask_Match.f k s t = some (mt s t) ∧ latheref11_Match.f k s t = some (mt s t) := by
  obtain ⟨k, r, h1, h2, h3⟩ := matches_same s t hs ht
  have : r = mt s t := bool_eq h3 (by unfold mt; exact @decide_eq_true_iff _ (Classical.propDecidable _))
  subst this
  exact ⟨k, h1, h2⟩
/-- Has a call the arguments that a mask's call has? -/
def shp (nm : ByteArray) (n : Int) : Bool :=
  if nm.toList = ([97, 108, 108] : List UInt8) then n == 0
  else if nm.toList = ([110, 111, 110, 101] : List UInt8) then n == 0
  else if nm.toList = ([114, 101, 97, 108] : List UInt8) then n == 0
  else if nm.toList = ([99, 111, 109, 112, 108, 101, 120] : List UInt8) then n == 0
  else if nm.toList = ([110, 111, 116] : List UInt8) then n == 1
  else if nm.toList = ([97, 110, 100] : List UInt8) then decide (n > 0)
  else if nm.toList = ([111, 114] : List UInt8) then decide (n > 0)
  else false
mutual
noncomputable def flt (l : List Pm) : Nd → Option (Int × Int)
  | ⟨k, nm, _, _, _, args, at_⟩ => if k = 5 then (if (l.any fun p => mt nm p.f0) = true then none else some (111, at_)) else if k = 1 then (if shp nm args.length = true then fltL l args else some (110, at_)) else some (110, at_)
noncomputable def fltL (l : List Pm) : List Nd → Option (Int × Int)
  | [] => none
  | y :: ys => if y.f4.toList = ([] : List UInt8) then (match flt l y with | some f => some f | none => fltL l ys) else some (110, y.f6)
end
mutual
noncomputable def inn (p : Pm) : Nd → Bool
  | ⟨k, nm, _, _, _, args, _⟩ => if k = 5 then mt nm p.f0
    else if nm.toList = ([97, 108, 108] : List UInt8) then true
    else if nm.toList = ([114, 101, 97, 108] : List UInt8) then p.f1 == 1
    else if nm.toList = ([99, 111, 109, 112, 108, 101, 120] : List UInt8) then p.f1 == 2
    else if nm.toList = ([110, 111, 116] : List UInt8) then !((innL p args).headD false)
    else if nm.toList = ([97, 110, 100] : List UInt8) then (innL p args).all id
    else if nm.toList = ([111, 114] : List UInt8) then (innL p args).any id
    else false
noncomputable def innL (p : Pm) : List Nd → List Bool
  | [] => []
  | y :: ys => inn p y :: innL p ys
end
theorem innL_map (p : Pm) : ∀ ys, innL p ys = ys.map (inn p)
  | [] => by simp [innL]
  | y :: ys => by rw [innL, List.map_cons, innL_map p ys]
theorem flt_eq (l : List Pm) (x : Nd) : flt l x = if x.f0 = 5 then (if (l.any fun p => mt x.f1 p.f0) = true then none else some (111, x.f6)) else if x.f0 = 1 then (if shp x.f1 x.f5.length = true then fltL l x.f5 else some (110, x.f6)) else some (110, x.f6) := by cases x; rw [flt]
theorem inn_eq (p : Pm) (x : Nd) : inn p x = if x.f0 = 5 then mt x.f1 p.f0
    else if x.f1.toList = ([97, 108, 108] : List UInt8) then true
    else if x.f1.toList = ([114, 101, 97, 108] : List UInt8) then p.f1 == 1
    else if x.f1.toList = ([99, 111, 109, 112, 108, 101, 120] : List UInt8) then p.f1 == 2
    else if x.f1.toList = ([110, 111, 116] : List UInt8) then !((x.f5.map (inn p)).headD false)
    else if x.f1.toList = ([97, 110, 100] : List UInt8) then (x.f5.map (inn p)).all id
    else if x.f1.toList = ([111, 114] : List UInt8) then (x.f5.map (inn p)).any id
    else false := by cases x; rw [inn, innL_map]
theorem flt_code (l : List Pm) : ∀ (x : Nd) (f : Int × Int), flt l x = some f → f.1 ≠ 0 := by
  intro x
  induction x using tree_ind with
  | h x ih =>
    have key : ∀ ys : List Nd, (∀ y ∈ ys, y ∈ x.f5) → ∀ f, fltL l ys = some f → f.1 ≠ 0 := by
      intro ys
      induction ys with
      | nil => intro _ f h; simp [fltL] at h
      | cons y ys ih2 =>
        intro hsub f h
        rw [fltL] at h
        split at h
        · cases hf : flt l y with
          | some g =>
            rw [hf] at h
            injection h with h
            subst h
            exact ih y (hsub y (List.mem_cons_self ..)) _ hf
          | none =>
            rw [hf] at h
            exact ih2 (fun z hz => hsub z (List.mem_cons_of_mem _ hz)) f h
        · injection h with h; subst h; simp
    intro f h
    rw [flt_eq] at h
    split at h
    · split at h
      · cases h
      · injection h with h; subst h; simp
    · split at h
      · split at h
        · exact key x.f5 (fun _ h => h) f h
        · injection h with h; subst h; simp
      · injection h with h; subst h; simp
theorem shape_is (x : Nd) : ∃ k, mask_shape.f k x.f0 x.f1 x.f2 x.f3 x.f4 x.f5 x.f6 = some (shp x.f1 x.f5.length) := by
  refine ⟨1, ?_⟩
  unfold mask_shape.f shp
  simp only [mask_shape.j0]
  repeat' split
  all_goals simp_all
theorem drop_is {α : Type} {l : List α} {i : Nat} {y : α} {ys : List α} (h : l.drop i = y :: ys) : i < l.length ∧ l[i]? = some y ∧ l.drop (i + 1) = ys ∧ y ∈ l := by
  have hi : i < l.length := by
    rcases Nat.lt_or_ge i l.length with h1 | h1
    · exact h1
    · rw [List.drop_of_length_le h1] at h; cases h
  rw [List.drop_eq_getElem_cons hi] at h
  injection h with h1 h2
  exact ⟨hi, by rw [List.getElem?_eq_getElem hi, h1], h2, h1 ▸ List.getElem_mem hi⟩
theorem drop_nil {α : Type} {l : List α} {i : Nat} (hi : i ≤ l.length) (h : l.drop i = []) : i = l.length := by
  have := congrArg List.length h
  rw [List.length_drop] at this
  simp at this
  omega
theorem rd_pm {l : List Pm} {i : Nat} {p : Pm} (h : l[i]? = some p) : rd_T45 l (i : Int) = p := by
  unfold rd_T45
  rw [Int.toNat_natCast, List.getD_eq_getElem?_getD, h]
  rfl
/-- What is known of a signature. -/
def Sig (l : List Pm) : Prop := l.length ≤ 4398046510976 ∧ ∀ p ∈ l, p.f0.size ≤ 140737488351232
theorem shp_not {nm : ByteArray} {n : Int} (h : shp nm n = true) (e : nm.toList = ([110, 111, 116] : List UInt8)) : n = 1 := by
  unfold shp at h
  simp [e] at h
  exact h
theorem those_is {σ : Type} (l : List Pm) (step : Int → σ → Option (Bool × σ)) (f : Pm → Bool) (u : σ → Pm → σ) (hs : ∀ (i : Nat) (p : Pm) (s : σ), l[i]? = some p → step (i : Int) s = some (f p, u s p)) :
    ∀ (ps : List Pm) (i : Nat) (acc : List Bool) (s : σ), i ≤ l.length → l.drop i = ps → ∀ k, ps.length < k → mask_those.g step k l.length (i : Int) acc s = some (acc ++ ps.map f, ps.foldl u s) := by
  intro ps
  induction ps with
  | nil =>
    intro i acc s hi h k hk
    have := drop_nil hi h
    obtain ⟨k, rfl⟩ : ∃ j, k = j + 1 := ⟨k - 1, by simp at hk; omega⟩
    rw [mask_those.g, if_neg (by omega)]
    simp
  | cons p ps ih =>
    intro i acc s hi h k hk
    obtain ⟨hlt, hp, hnext, _⟩ := drop_is h
    obtain ⟨k, rfl⟩ : ∃ j, k = j + 1 := ⟨k - 1, by simp at hk; omega⟩
    have := ih (i + 1) (acc ++ [f p]) (u s p) (by omega) hnext k (by simp at hk; omega)
    rw [mask_those.g, if_pos (by omega), hs i p s hp, Option.bind_some]
    rw [show ((i : Int) + 1) = ((i + 1 : Nat) : Int) from by omega, this]
    simp
theorem fold_or (f : Pm → Bool) : ∀ (l : List Pm) (s : Bool), l.foldl (fun s p => s || f p) s = (s || l.any f)
  | [], s => by simp
  | p :: ps, s => by rw [List.foldl_cons, fold_or f ps]; simp [Bool.or_assoc]
theorem all_match (nm : ByteArray) (hnm : nm.size ≤ 140737488351232) : ∀ (l : List Pm), (∀ p ∈ l, p.f0.size ≤ 140737488351232) → ∃ k, ∀ p ∈ l, mask_Match.f k nm p.f0 = some (mt nm p.f0)
  | [], _ => ⟨0, fun p hp => by cases hp⟩
  | p :: ps, h => by
    obtain ⟨k1, h1⟩ := all_match nm hnm ps (fun q hq => h q (List.mem_cons_of_mem _ hq))
    obtain ⟨k2, h2, _⟩ := match_mt nm p.f0 (by omega) (by have := h p (List.mem_cons_self ..); omega)
    refine ⟨max k1 k2, fun q hq => ?_⟩
    rcases List.mem_cons.1 hq with rfl | hq
    · exact more (fun k => mask_Match.mono _ _ k) h2 (Nat.le_max_right k1 k2)
    · exact more (fun k => mask_Match.mono _ _ k) (h1 q hq) (Nat.le_max_left k1 k2)
def countT : List Bool → Nat
  | [] => 0
  | b :: bs => (if b = true then 1 else 0) + countT bs
theorem countT_le : ∀ bs, countT bs ≤ bs.length
  | [] => Nat.le_refl _
  | b :: bs => by have := countT_le bs; simp only [countT, List.length_cons]; split <;> omega
theorem countT_all : ∀ bs : List Bool, (countT bs = bs.length ↔ bs.all id = true)
  | [] => by simp [countT]
  | b :: bs => by
    have h1 := countT_le bs
    have h2 := countT_all bs
    cases b
    · simp [countT]; omega
    · simp only [countT, List.length_cons, List.all_cons, id, Bool.true_and]
      rw [← h2]
      simp
      omega
theorem countT_any : ∀ bs : List Bool, (0 < countT bs ↔ bs.any id = true)
  | [] => by simp [countT]
  | b :: bs => by
    have h2 := countT_any bs
    cases b
    · simp only [countT, List.any_cons, id, Bool.false_or]
      rw [← h2]
      simp
    · simp [countT]; omega
theorem cnt_is (l : List Pm) (i : Nat) (p : Pm) (hi : l[i]? = some p) : ∀ (ys : List Nd) (c : Nat), c + ys.length ≤ 1000000000000000 → mask_read.cnt (ys.map fun y => l.map fun q => inn q y) (i : Int) (c : Int) = some ((c + countT (ys.map (inn p)) : Nat) : Int)
  | [], c, _ => by simp [mask_read.cnt, countT]
  | y :: ys, c, h => by
    have hlt : i < l.length := by
      rcases Nat.lt_or_ge i l.length with h1 | h1
      · exact h1
      · rw [List.getElem?_eq_none h1] at hi; cases hi
    have hrd : rdOf false (l.map fun q => inn q y) (i : Int) = inn p y := by
      unfold rdOf
      rw [Int.toNat_natCast, List.getD_eq_getElem?_getD, List.getElem?_map, hi]
      rfl
    simp only [List.length_cons] at h
    rw [List.map_cons, List.map_cons, mask_read.cnt, if_pos (by rw [List.length_map]; omega), hrd]
    cases hb : inn p y
    · have := cnt_is l i p hi ys c (by omega)
      simp only [Bool.false_eq_true, if_false, countT, Nat.zero_add]
      exact this
    · have := cnt_is l i p hi ys (c + 1) (by omega)
      simp only [if_true, countT]
      rw [wr64 _ (by omega) (by omega), show (c : Int) + 1 = ((c + 1 : Nat) : Int) from by omega, this]
      congr 2
      omega
theorem s2_is (l : List Pm) (x : Nd) (hlen : x.f5.length ≤ 1599289640354) (h5 : ¬ x.f0 = 5) (hshp : shp x.f1 x.f5.length = true) (i : Nat) (p : Pm) (hi : l[i]? = some p) :
    mask_read.s2 x.f1 l (x.f5.map fun y => l.map fun q => inn q y) (i : Int) = some (inn p x) := by
  have hlt : i < l.length := by
    rcases Nat.lt_or_ge i l.length with h1 | h1
    · exact h1
    · rw [List.getElem?_eq_none h1] at hi; cases hi
  rw [inn_eq, if_neg h5]
  unfold mask_read.s2
  rw [rd_pm hi]
  by_cases e1 : x.f1.toList = ([97, 108, 108] : List UInt8)
  · rw [if_pos e1, if_pos e1]
  by_cases e2 : x.f1.toList = ([114, 101, 97, 108] : List UInt8)
  · rw [if_neg e1, if_neg e1, if_pos e2, if_pos e2]
  by_cases e3 : x.f1.toList = ([99, 111, 109, 112, 108, 101, 120] : List UInt8)
  · rw [if_neg e1, if_neg e1, if_neg e2, if_neg e2, if_pos e3, if_pos e3]
  rw [if_neg e1, if_neg e1, if_neg e2, if_neg e2, if_neg e3, if_neg e3]
  by_cases e4 : x.f1.toList = ([110, 111, 116] : List UInt8)
  · rw [if_pos e4, if_pos e4]
    have hn := shp_not hshp e4
    cases hl5 : x.f5 with
    | nil => rw [hl5] at hn; simp at hn
    | cons y ys =>
      have hrd : rdOf false (l.map fun q => inn q y) (i : Int) = inn p y := by
        unfold rdOf
        rw [Int.toNat_natCast, List.getD_eq_getElem?_getD, List.getElem?_map, hi]
        rfl
      rw [List.map_cons]
      simp only
      rw [if_pos (by rw [List.length_map]; omega), hrd]
      rfl
  rw [if_neg e4, if_neg e4]
  have hc := cnt_is l i p hi x.f5 0 (by omega)
  rw [show ((0 : Nat) : Int) = 0 from rfl] at hc
  rw [hc, Option.bind_some, Nat.zero_add]
  have hle := countT_le (x.f5.map (inn p))
  have hal := countT_all (x.f5.map (inn p))
  have han := countT_any (x.f5.map (inn p))
  rw [List.length_map] at hal hle
  rw [List.length_map]
  by_cases e5 : x.f1.toList = ([97, 110, 100] : List UInt8)
  · rw [if_pos e5]
    have e6 : (x.f1.toList == ([111, 114] : List UInt8)) = false := by rw [e5]; rfl
    rw [e6, e5]
    simp only [beq_self_eq_true, Bool.true_and, Bool.false_and, Bool.or_false]
    congr 1
    apply bool_eq (P := countT (x.f5.map (inn p)) = x.f5.length)
    · simp <;> omega
    · exact hal.symm
  · rw [if_neg e5]
    have e5' : (x.f1.toList == ([97, 110, 100] : List UInt8)) = false := by simpa using e5
    rw [e5']
    by_cases e6 : x.f1.toList = ([111, 114] : List UInt8)
    · rw [if_pos e6, e6]
      simp only [beq_self_eq_true, Bool.true_and, Bool.false_and, Bool.false_or]
      congr 1
      apply bool_eq (P := 0 < countT (x.f5.map (inn p)))
      · simp <;> omega
      · exact han.symm
    · rw [if_neg e6]
      have e6' : (x.f1.toList == ([111, 114] : List UInt8)) = false := by simpa using e6
      rw [e6']
      simp
noncomputable def rdm (l : List Pm) (o : Option (Int × Int)) (x : Nd) : List Bool × Option (Int × Int) := match o with | some f => ([], some f) | none => (l.map fun p => inn p x, none)
theorem read_is (l : List Pm) (hl : Sig l) : ∀ x : Nd, ok29 x → ∀ root, ∃ k, mask_read.g k x l root = some (if root = false ∧ ¬ x.f4.toList = ([] : List UInt8) then ([], some (110, x.f6)) else rdm l (flt l x) x) := by
  obtain ⟨hll, hls⟩ := hl
  intro x
  induction x using tree_ind with
  | h x ih =>
    intro hx root
    obtain ⟨_, hnm, _, hlen, hmem, _⟩ := ok_inv hx
    by_cases hr : root = false ∧ ¬ x.f4.toList = ([] : List UInt8)
    · exact ⟨1, by rw [mask_read.g, if_pos hr, if_pos hr]⟩
    rw [if_neg hr]
    by_cases h5 : x.f0 = 5
    · obtain ⟨k, hk⟩ := all_match x.f1 hnm l hls
      refine ⟨max k (l.length + 1) + 1, ?_⟩
      have hstep : ∀ (i : Nat) (p : Pm) (s : Bool), l[i]? = some p → mask_read.s1 (max k (l.length + 1)) x.f1 l (i : Int) s = some (mt x.f1 p.f0, s || mt x.f1 p.f0) := by
        intro i p s hi
        unfold mask_read.s1
        rw [rd_pm hi, more (fun k => mask_Match.mono _ _ k) (hk p (List.mem_of_getElem? hi)) (Nat.le_max_left k (l.length + 1))]
        rfl
      have := those_is l _ (fun p => mt x.f1 p.f0) (fun s p => s || mt x.f1 p.f0) hstep l 0 [] false (by omega) rfl (max k (l.length + 1)) (by omega)
      rw [fold_or] at this
      rw [mask_read.g, if_neg hr, if_pos h5, if_pos (by omega)]
      rw [show ((0 : Nat) : Int) = 0 from rfl] at this
      rw [this, Option.bind_some, flt_eq, if_pos h5]
      simp only [Bool.false_or, List.nil_append]
      have hmap : (l.map fun p => mt x.f1 p.f0) = l.map fun p => inn p x := by
        apply List.map_congr_left
        intro p _
        rw [inn_eq, if_pos h5]
      split
      · rw [hmap]; rfl
      · rfl
    · by_cases h1 : x.f0 = 1
      · obtain ⟨k0, hk0⟩ := shape_is x
        by_cases hshp : shp x.f1 x.f5.length = true
        · have key : ∀ (ys : List Nd) (acc : List (List Bool)), (∀ y ∈ ys, y ∈ x.f5) → acc.length + ys.length ≤ 1599289640354 → ∃ k, mask_read.gl k ys l acc = some (match fltL l ys with | some f => ([], some f) | none => (acc ++ ys.map (fun y => l.map fun p => inn p y), none)) := by
            intro ys
            induction ys with
            | nil => intro acc _ _; exact ⟨1, by rw [mask_read.gl]; simp [fltL]⟩
            | cons y ys ih2 =>
              intro acc hsub hac
              have hy := hsub y (List.mem_cons_self ..)
              simp only [List.length_cons] at hac
              obtain ⟨k1, hk1⟩ := ih y hy (hmem y hy) false
              obtain ⟨k2, hk2⟩ := ih2 (acc ++ [l.map fun p => inn p y]) (fun z hz => hsub z (List.mem_cons_of_mem _ hz)) (by simp; omega)
              refine ⟨max k1 k2 + 1, ?_⟩
              rw [mask_read.gl, more (fun k => (mask_read.mono_l k).1 _ _ _) hk1 (Nat.le_max_left k1 k2), Option.bind_some, fltL]
              by_cases hkey : y.f4.toList = ([] : List UInt8)
              · rw [if_neg (by simp [hkey]), if_pos hkey]
                cases hf : flt l y with
                | some f => rfl
                | none =>
                  simp only [rdm]
                  rw [if_pos (by omega), more (fun k => (mask_read.mono_l k).2 _ _ _) hk2 (Nat.le_max_right k1 k2)]
                  cases fltL l ys <;> simp
              · rw [if_pos ⟨rfl, hkey⟩, if_neg hkey]
          obtain ⟨k1, hk1⟩ := key x.f5 [] (fun _ h => h) (by simp; omega)
          have hstep : ∀ (i : Nat) (p : Pm) (s : Unit), l[i]? = some p → (fun i (_ : Unit) => (mask_read.s2 x.f1 l (x.f5.map fun y => l.map fun p => inn p y) i).map (fun b => (b, ()))) (i : Int) s = some (inn p x, ()) := by
            intro i p s hi
            simp only
            rw [s2_is l x hlen h5 hshp i p hi]
            rfl
          have hth := those_is l (fun i (_ : Unit) => (mask_read.s2 x.f1 l (x.f5.map fun y => l.map fun p => inn p y) i).map (fun b => (b, ()))) (fun p => inn p x) (fun _ _ => ()) hstep l 0 [] () (by omega) rfl
          refine ⟨max k0 (max k1 (l.length + 1)) + 1, ?_⟩
          rw [mask_read.g, if_neg hr, if_neg h5, if_pos h1, more (fun k => mask_shape.mono _ _ _ _ _ _ _ k) hk0 (by omega), Option.bind_some, hshp, if_pos rfl, more (fun k => (mask_read.mono_l k).2 _ _ _) hk1 (by omega), Option.bind_some, flt_eq, if_neg h5, if_pos h1, if_pos hshp]
          cases hf : fltL l x.f5 with
          | some f => rfl
          | none =>
            simp only [List.nil_append]
            rw [if_pos (by omega)]
            have := hth (max k0 (max k1 (l.length + 1))) (by omega)
            rw [show ((0 : Nat) : Int) = 0 from rfl] at this
            rw [this]
            simp [rdm]
        · have hshp' : shp x.f1 x.f5.length = false := by simpa using hshp
          refine ⟨k0 + 1, ?_⟩
          rw [mask_read.g, if_neg hr, if_neg h5, if_pos h1, hk0, Option.bind_some, flt_eq, if_neg h5, if_pos h1, hshp']
          rfl
      · refine ⟨1, ?_⟩
        rw [mask_read.g, if_neg hr, if_neg h5, if_neg h1, flt_eq, if_neg h5, if_neg h1]
        rfl
/-- The places of the parameters that are meant. -/
noncomputable def sel (x : Nd) : List Pm → Nat → List Int
  | [], _ => []
  | p :: ps, i => if inn p x = true then (i : Int) :: sel x ps (i + 1) else sel x ps (i + 1)
noncomputable def msk (x : Nd) (l : List Pm) : List Int × Int × Int := if dep x > 64 then ([], 81, x.f6) else match flt l x with | some f => ([], f.1, f.2) | none => (sel x l 0, 0, 0)
theorem sel_its (x : Nd) (l : List Pm) (hl : l.length ≤ 4398046510976) : ∀ (ps : List Pm) (i : Nat) (out : List Int), i ≤ l.length → l.drop i = ps → out.length ≤ i → mask_Set.l (l.map fun p => inn p x) ps.length (i : Int) out = some (out ++ sel x ps i)
  | [], i, out, _, _, _ => by simp [mask_Set.l, sel]
  | p :: ps, i, out, hi, h, ho => by
    obtain ⟨hlt, hp, hnext, _⟩ := drop_is h
    have hrd : rdOf false (l.map fun q => inn q x) (i : Int) = inn p x := by
      unfold rdOf
      rw [Int.toNat_natCast, List.getD_eq_getElem?_getD, List.getElem?_map, hp]
      rfl
    rw [List.length_cons, mask_Set.l, if_pos (by rw [List.length_map]; omega), hrd, sel]
    have e2 : ((i : Int) + 1) = ((i + 1 : Nat) : Int) := by omega
    by_cases hb : inn p x = true
    · have := sel_its x l hl ps (i + 1) (out ++ [(i : Int)]) (by omega) hnext (by simp; omega)
      rw [if_pos hb, if_pos hb, if_pos (by omega), e2, this]
      simp
    · have := sel_its x l hl ps (i + 1) out (by omega) hnext (by omega)
      rw [if_neg hb, if_neg hb, e2, this]
theorem set_is (x : Nd) (hx : ok29 x) (hd : dep x ≤ 1000000) (l : List Pm) (hl : Sig l) : ∃ k, mask_Set.f k x.f0 x.f1 x.f2 x.f3 x.f4 x.f5 x.f6 l = some (msk x l) := by
  obtain ⟨k1, h1⟩ := its_depth x hd
  obtain ⟨k2, h2⟩ := read_is l hl x hx true
  rw [if_neg (by simp)] at h2
  refine ⟨max k1 k2, ?_⟩
  unfold mask_Set.f msk
  rw [more (fun k => tree_Depth.mono _ _ _ _ _ _ _ k) h1 (Nat.le_max_left k1 k2), Option.bind_some]
  by_cases h64 : dep x > 64
  · rw [if_pos (by omega), if_pos h64]
  · have h3 := more (fun k => (mask_read.mono_l k).1 _ _ _) h2 (Nat.le_max_right k1 k2)
    have hxe : (⟨x.f0, x.f1, x.f2, x.f3, x.f4, x.f5, x.f6⟩ : Nd) = x := by cases x; rfl
    rw [if_neg (by omega), if_neg h64, hxe, h3, Option.bind_some]
    cases hf : flt l x with
    | some f => rfl
    | none =>
      have h4 := sel_its x l hl.1 l 0 [] (by omega) rfl (by simp)
      simp only [rdm]
      rw [show ((0 : Nat) : Int) = 0 from rfl] at h4
      rw [h4]
      rfl
theorem surely : lathelaw11_sure.f 30 = some true := by decide +kernel
theorem room_is : ∀ x : Nd, ok29 x → ∀ left : Int, 0 ≤ left → left ≤ 1000000 → ∃ k, lathelaw11_room.f k x.f0 x.f1 x.f2 x.f3 x.f4 x.f5 x.f6 left = some (max (left - (cnt x : Int)) (-1)) := by
  intro x
  induction x using tree_ind with
  | h x ih =>
    intro hx left h0 hl
    obtain ⟨_, _, _, hlen, hmem, _⟩ := ok_inv hx
    have hcc := cnt_eq x
    have key : ∀ (ys : List Nd) (i : Nat) (left : Int), i ≤ x.f5.length → x.f5.drop i = ys → -1 ≤ left → left ≤ 1000000 → ∃ k, lathelaw11_room.l0 k left (i : Int) x.f0 x.f1 x.f2 x.f3 x.f4 x.f5 x.f6 = some (max (left - (cntL ys : Int)) (-1)) := by
      intro ys
      induction ys with
      | nil =>
        intro i left hi h hm _
        have := drop_end hi h
        refine ⟨1, ?_⟩
        rw [lathelaw11_room.l0, if_neg (by omega)]
        simp [cntL]; omega
      | cons y ys ih2 =>
        intro i left hi h hm hl
        obtain ⟨hlt, hrd, hnext, hy⟩ := drop_rd h
        by_cases h0 : 0 ≤ left
        · obtain ⟨k1, h1⟩ := ih y hy (hmem y hy) left h0 hl
          obtain ⟨k2, h2⟩ := ih2 (i + 1) (max (left - (cnt y : Int)) (-1)) (by omega) hnext (by omega) (by omega)
          refine ⟨max k1 k2 + 1, ?_⟩
          have e2 : wrap64 ((i : Int) + 1) = ((i + 1 : Nat) : Int) := by rw [wr64 _ (by omega) (by omega)]; omega
          rw [lathelaw11_room.l0, if_pos (by omega), if_pos h0, if_pos (by omega), hrd, more (fun k => lathelaw11_room.mono _ _ _ _ _ _ _ _ k) h1 (Nat.le_max_left k1 k2), Option.bind_some, e2, more (fun k => (lathelaw11_room.mono_l k).2 _ _ _ _ _ _ _ _ _) h2 (Nat.le_max_right k1 k2)]
          simp only [cntL]
          congr 1
          omega
        · refine ⟨1, ?_⟩
          rw [lathelaw11_room.l0, if_pos (by omega), if_neg (by omega)]
          congr 1
          omega
    obtain ⟨k, hk⟩ := key x.f5 0 (left - 1) (by omega) rfl (by omega) (by omega)
    refine ⟨k + 1, ?_⟩
    rw [lathelaw11_room.f, wr64 _ (by omega) (by omega), hcc]
    refine Eq.trans hk ?_
    congr 1
    omega
theorem big_is (x : Nd) (hx : ok29 x) : ∃ k, lathelaw11_big.f k x.f0 x.f1 x.f2 x.f3 x.f4 x.f5 x.f6 = some (decide (9000 < cnt x)) := by
  obtain ⟨k, hk⟩ := room_is x hx 9000 (by omega) (by omega)
  refine ⟨k, ?_⟩
  unfold lathelaw11_big.f
  rw [hk, Option.bind_some]
  congr 1
  simp only [decide_eq_decide]
  omega
theorem same_from (a : List Int) : ∀ (d i : Nat), a.length - i = d → i ≤ a.length → a.length ≤ 1000000000000000 → ∃ k, lathelaw11_same.l0 k a a (i : Int) = some true := by
  intro d
  induction d with
  | zero =>
    intro i hd hi _
    exact ⟨1, by rw [lathelaw11_same.l0, if_neg (by omega)]⟩
  | succ d ih =>
    intro i hd hi hl
    obtain ⟨k, hk⟩ := ih (i + 1) (by omega) (by omega) hl
    have e2 : wrap64 ((i : Int) + 1) = ((i + 1 : Nat) : Int) := by rw [wr64 _ (by omega) (by omega)]; omega
    exact ⟨k + 1, by rw [lathelaw11_same.l0, if_pos (by omega), if_pos (by omega), if_pos (by omega), if_pos rfl, e2, hk]⟩
theorem same_is (a : List Int) (hl : a.length ≤ 1000000000000000) : ∃ k, lathelaw11_same.f k a a = some true := by
  obtain ⟨k, hk⟩ := same_from a _ 0 rfl (by omega) hl
  refine ⟨k, ?_⟩
  unfold lathelaw11_same.f
  rw [if_pos rfl]
  exact hk
theorem sel_len (x : Nd) : ∀ (ps : List Pm) (i : Nat), (sel x ps i).length ≤ ps.length
  | [], i => by simp [sel]
  | p :: ps, i => by
    have := sel_len x ps (i + 1)
    rw [sel]
    split
    · simp; omega
    · simp; omega
theorem sig_of {l : List Pm} (h : l.length * Try.prog.bytesOf 45 ≤ 140737488351232 ∧ ∀ x ∈ l, ok45 x) : Sig l := by
  have hb : Try.prog.bytesOf 45 = 32 := by kernel_rfl
  obtain ⟨h1, h2⟩ := h
  rw [hb] at h1
  exact ⟨by omega, fun p hp => (h2 p hp).1⟩
theorem bindS {α β : Type} {o : Option α} {f : α → Option β} {x : α} {r : Option β} (h : o = some x) (h2 : f x = r) : o.bind f = r := by rw [h]; exact h2
def nilB : ByteArray := (⟨#[]⟩ : ByteArray)
def notB : ByteArray := (⟨#[110, 111, 116]⟩ : ByteArray)
def andB : ByteArray := (⟨#[97, 110, 100]⟩ : ByteArray)
def orB : ByteArray := (⟨#[111, 114]⟩ : ByteArray)
def ck (x : Nd) : Nd := ⟨x.f0, x.f1, x.f2, x.f3, nilB, x.f5, x.f6⟩
def cl (nm : ByteArray) (ys : List Nd) : Nd := ⟨1, nm, 0, 0, nilB, ys, 0⟩
theorem flt_ck (l : List Pm) (x : Nd) : flt l (ck x) = flt l x := by rw [flt_eq, flt_eq]; rfl
theorem inn_ck (p : Pm) (x : Nd) : inn p (ck x) = inn p x := by rw [inn_eq, inn_eq]; rfl
theorem dep_ck (x : Nd) : dep (ck x) = dep x := by rw [dep_eq, dep_eq]; rfl
theorem ok_ck {x : Nd} (h : ok29 x) : ok29 (ck x) := by
  cases h with
  | mk _ h0 h1 h2 h3 h4 h5 g5 h6 => exact ok29.mk _ h0 h1 h2 h3 (by show (0 : Nat) ≤ _; omega) h5 g5 h6
theorem ok_cl {nm : ByteArray} {ys : List Nd} (hn : nm.size ≤ 3) (hl : ys.length ≤ 2) (hy : ∀ y ∈ ys, ok29 y) : ok29 (cl nm ys) := by
  have hb : Try.prog.bytesOf 29 = 88 := by kernel_rfl
  exact ok29.mk _ (show (Lit.int .i64 1).wf = true by decide) (show nm.size ≤ _ by omega) (show (Lit.int .u32 0).wf = true by decide) (show (Lit.int .i64 0).wf = true by decide) (by show (0 : Nat) ≤ _; omega) (show ys.length * _ ≤ _ by rw [hb]; omega) hy (show (Lit.int .i64 0).wf = true by decide)
theorem dep_cl (nm : ByteArray) (ys : List Nd) : dep (cl nm ys) = depL ys + 1 := rfl
theorem nil_list : nilB.toList = ([] : List UInt8) := by decide +kernel
theorem flt_cl (l : List Pm) {nm : ByteArray} {ys : List Nd} (hs : shp nm ys.length = true) (h : fltL l ys = none) : flt l (cl nm ys) = none := by
  rw [flt_eq]
  show (if (1 : Int) = 5 then _ else if (1 : Int) = 1 then (if shp nm ys.length = true then fltL l ys else _) else _) = none
  rw [if_neg (by decide), if_pos rfl, if_pos hs, h]
theorem fltL_ck (l : List Pm) {y : Nd} {ys : List Nd} (h : flt l y = none) (hs : fltL l ys = none) : fltL l (ck y :: ys) = none := by
  rw [fltL, if_pos (show (ck y).f4.toList = _ from nil_list), flt_ck, h]
  exact hs
theorem flt_not {l : List Pm} {a : Nd} (h : flt l a = none) : flt l (cl notB [ck a]) = none := flt_cl l (show shp notB ((1 : Nat) : Int) = true by decide +kernel) (fltL_ck l h (by rw [fltL]))
theorem flt_and {l : List Pm} {a b : Nd} (h : flt l a = none) (h2 : flt l b = none) : flt l (cl andB [ck a, ck b]) = none := flt_cl l (show shp andB ((2 : Nat) : Int) = true by decide +kernel) (fltL_ck l h (fltL_ck l h2 (by rw [fltL])))
theorem flt_or {l : List Pm} {a b : Nd} (h : flt l a = none) (h2 : flt l b = none) : flt l (cl orB [ck a, ck b]) = none := flt_cl l (show shp orB ((2 : Nat) : Int) = true by decide +kernel) (fltL_ck l h (fltL_ck l h2 (by rw [fltL])))
theorem inn_not (p : Pm) (a : Nd) : inn p (cl notB [ck a]) = !inn p a := by
  unfold cl
  rw [inn, if_neg (by decide), if_neg (by decide +kernel), if_neg (by decide +kernel), if_neg (by decide +kernel), if_pos (by decide +kernel), innL, inn_ck]
  rfl
theorem inn_and (p : Pm) (a b : Nd) : inn p (cl andB [ck a, ck b]) = (inn p a && inn p b) := by
  unfold cl
  rw [inn, if_neg (by decide), if_neg (by decide +kernel), if_neg (by decide +kernel), if_neg (by decide +kernel), if_neg (by decide +kernel), if_pos (by decide +kernel), innL, innL, innL, inn_ck, inn_ck]
  simp
theorem inn_or (p : Pm) (a b : Nd) : inn p (cl orB [ck a, ck b]) = (inn p a || inn p b) := by
  unfold cl
  rw [inn, if_neg (by decide), if_neg (by decide +kernel), if_neg (by decide +kernel), if_neg (by decide +kernel), if_neg (by decide +kernel), if_neg (by decide +kernel), if_pos (by decide +kernel), innL, innL, innL, inn_ck, inn_ck]
  simp
theorem msk_sel {x : Nd} {l : List Pm} (hd : dep x ≤ 64) (hf : flt l x = none) : msk x l = (sel x l 0, 0, 0) := by
  unfold msk
  rw [if_neg (by omega), hf]
/-- An answer without an error: the tree has no fault and isn't too deep. -/
theorem msk_ok {x : Nd} {l : List Pm} (h : (msk x l).2.1 = 0) : dep x ≤ 64 ∧ flt l x = none := by
  unfold msk at h
  by_cases hd : dep x > 64
  · rw [if_pos hd] at h; cases h
  · rw [if_neg hd] at h
    cases hf : flt l x with
    | none => exact ⟨by omega, rfl⟩
    | some f => rw [hf] at h; exact absurd h (flt_code l x f hf)
theorem sel_congr {x y : Nd} (h : ∀ p, inn p x = inn p y) : ∀ (ps : List Pm) (i : Nat), sel x ps i = sel y ps i
  | [], _ => by rw [sel, sel]
  | p :: ps, i => by rw [sel, sel, h p, sel_congr h ps (i + 1)]
theorem sel_and_or (a b : Nd) : ∀ (ps : List Pm) (i : Nat), (sel (cl andB [ck a, ck b]) ps i).length + (sel (cl orB [ck a, ck b]) ps i).length = (sel a ps i).length + (sel b ps i).length
  | [], _ => by simp [sel]
  | p :: ps, i => by
    have ih := sel_and_or a b ps (i + 1)
    rw [sel, sel, sel, sel, inn_and, inn_or]
    cases inn p a <;> cases inn p b <;> simp <;> omega
theorem sel_not (a : Nd) : ∀ (ps : List Pm) (i : Nat), (sel a ps i).length + (sel (cl notB [ck a]) ps i).length = ps.length
  | [], _ => by simp [sel]
  | p :: ps, i => by
    have ih := sel_not a ps (i + 1)
    rw [sel, sel, inn_not]
    cases inn p a <;> simp <;> omega
/-- How often a place stands in a list. -/
def cntI (v : Int) : List Int → Nat
  | [] => 0
  | x :: xs => (if x = v then 1 else 0) + cntI v xs
theorem cntI_lt (a : Nd) (v : Nat) : ∀ (ps : List Pm) (i : Nat), v < i → cntI (v : Int) (sel a ps i) = 0
  | [], _, _ => by rw [sel]; rfl
  | p :: ps, i, h => by
    have ih := cntI_lt a v ps (i + 1) (by omega)
    rw [sel]
    split
    · rw [cntI, if_neg (by omega), ih]
    · exact ih
theorem cnt_one (a : Nd) (v : Nat) : ∀ (ps : List Pm) (i : Nat), i ≤ v → v < i + ps.length → cntI (v : Int) (sel a ps i) + cntI (v : Int) (sel (cl notB [ck a]) ps i) = 1
  | [], i, h1, h2 => by simp at h2; omega
  | p :: ps, i, h1, h2 => by
    rw [sel, sel, inn_not]
    rcases Nat.lt_or_ge i v with h | h
    · have ih := cnt_one a v ps (i + 1) (by omega) (by rw [List.length_cons] at h2; omega)
      cases inn p a
      · simp only [Bool.not_false, if_true, Bool.false_eq_true, if_false, cntI]
        rw [if_neg (by omega)]
        omega
      · simp only [Bool.not_true, if_true, Bool.false_eq_true, if_false, cntI]
        rw [if_neg (by omega)]
        omega
    · have e : i = v := by omega
      subst e
      have z1 := cntI_lt a i ps (i + 1) (by omega)
      have z2 := cntI_lt (cl notB [ck a]) i ps (i + 1) (by omega)
      cases inn p a
      · simp only [Bool.not_false, if_true, Bool.false_eq_true, if_false, cntI]
        rw [z1, z2]
      · simp only [Bool.not_true, if_true, Bool.false_eq_true, if_false, cntI]
        rw [z1, z2]
def tupN (x : Nd) : Int × ByteArray × Int × Int × ByteArray × List Nd × Int := (x.f0, x.f1, x.f2, x.f3, x.f4, x.f5, x.f6)
theorem call_one (nm : ByteArray) (y : Nd) : lathelaw11_call.f 2 nm [y] = some (tupN (cl nm [ck y])) := by
  unfold lathelaw11_call.f
  rw [lathelaw11_call.l0, if_pos (by simp), if_pos (by decide), if_pos (by decide), show wrap64 (0 + 1) = 1 from by unfold wrap64; omega, lathelaw11_call.l0, if_neg (by simp)]
  rfl
theorem call_two (nm : ByteArray) (y z : Nd) : lathelaw11_call.f 3 nm [y, z] = some (tupN (cl nm [ck y, ck z])) := by
  unfold lathelaw11_call.f
  rw [lathelaw11_call.l0, if_pos (by simp), if_pos (by decide), if_pos (by decide), show wrap64 (0 + 1) = 1 from by unfold wrap64; omega, lathelaw11_call.l0, if_pos (by simp), if_pos (by decide), if_pos (by simp), show wrap64 (1 + 1) = 2 from by unfold wrap64; omega, lathelaw11_call.l0, if_neg (by simp)]
  rfl
theorem eta_nd (y : Nd) : (⟨y.f0, y.f1, y.f2, y.f3, y.f4, y.f5, y.f6⟩ : Nd) = y := by cases y; rfl
theorem call_not (y : Nd) : lathelaw11_call.f 2 (⟨#[110, 111, 116]⟩ : ByteArray) [(⟨y.f0, y.f1, y.f2, y.f3, y.f4, y.f5, y.f6⟩ : Nd)] = some (tupN (cl notB [ck y])) := call_one notB y
theorem call_and (y z : Nd) : lathelaw11_call.f 3 (⟨#[97, 110, 100]⟩ : ByteArray) [(⟨y.f0, y.f1, y.f2, y.f3, y.f4, y.f5, y.f6⟩ : Nd), (⟨z.f0, z.f1, z.f2, z.f3, z.f4, z.f5, z.f6⟩ : Nd)] = some (tupN (cl andB [ck y, ck z])) := by
  rw [eta_nd, eta_nd, show (⟨#[97, 110, 100]⟩ : ByteArray) = andB from rfl]
  exact call_two andB y z
theorem call_or (y z : Nd) : lathelaw11_call.f 3 (⟨#[111, 114]⟩ : ByteArray) [(⟨y.f0, y.f1, y.f2, y.f3, y.f4, y.f5, y.f6⟩ : Nd), (⟨z.f0, z.f1, z.f2, z.f3, z.f4, z.f5, z.f6⟩ : Nd)] = some (tupN (cl orB [ck y, ck z])) := by
  rw [eta_nd, eta_nd, show (⟨#[111, 114]⟩ : ByteArray) = orB from rfl]
  exact call_two orB y z
theorem rd_at {N : List Int} {j : Nat} {y : Int} (h : N[j]? = some y) : rd N (j : Int) = y := by
  unfold rd
  rw [Int.toNat_natCast, List.getD_eq_getElem?_getD, h]
  rfl
theorem nx1 {i : Nat} (h : i ≤ 4398046510976) : wrap64 ((i : Int) + 1) = ((i + 1 : Nat) : Int) := by rw [wr64 _ (by omega) (by omega)]; omega
theorem laws_l2 (l : List Pm) (X N : List Int) (i kk : Nat) (h : lathelaw11_MaskLaws.l0 kk l X N ((i + 1 : Nat) : Int) = some true) (hN : N.length ≤ 4398046510976) (hi : i ≤ 4398046510976) :
    ∀ (ys : List Int) (j c : Nat), j ≤ N.length → N.drop j = ys → c + cntI (i : Int) ys = 1 → ∃ k, lathelaw11_MaskLaws.l2 k l X N (i : Int) (c : Int) (j : Int) = some true := by
  intro ys
  induction ys with
  | nil =>
    intro j c hj hd hc
    have := drop_nil hj hd
    simp only [cntI] at hc
    exact ⟨kk + 1, by rw [lathelaw11_MaskLaws.l2, if_neg (by omega), if_pos (by omega), nx1 hi, h]⟩
  | cons y ys ih =>
    intro j c hj hd hc
    obtain ⟨hlt, hg, hnext, _⟩ := drop_is hd
    rw [cntI] at hc
    by_cases he : y = (i : Int)
    · rw [if_pos he] at hc
      obtain ⟨k, hk⟩ := ih (j + 1) (c + 1) hlt hnext (by omega)
      exact ⟨k + 1, by rw [lathelaw11_MaskLaws.l2, if_pos (by omega), if_pos (by omega), rd_at hg, if_pos he, nx1 (by omega), nx1 (by omega), hk]⟩
    · rw [if_neg he] at hc
      obtain ⟨k, hk⟩ := ih (j + 1) c hlt hnext (by omega)
      exact ⟨k + 1, by rw [lathelaw11_MaskLaws.l2, if_pos (by omega), if_pos (by omega), rd_at hg, if_neg he, nx1 (by omega), hk]⟩
theorem laws_l1 (l : List Pm) (X N : List Int) (i kk : Nat) (h : lathelaw11_MaskLaws.l0 kk l X N ((i + 1 : Nat) : Int) = some true) (hX : X.length ≤ 4398046510976) (hN : N.length ≤ 4398046510976) (hi : i ≤ 4398046510976) :
    ∀ (ys : List Int) (j c : Nat), j ≤ X.length → X.drop j = ys → c + cntI (i : Int) ys + cntI (i : Int) N = 1 → ∃ k, lathelaw11_MaskLaws.l1 k l X N (i : Int) (c : Int) (j : Int) = some true := by
  intro ys
  induction ys with
  | nil =>
    intro j c hj hd hc
    have := drop_nil hj hd
    simp only [cntI] at hc
    obtain ⟨k, hk⟩ := laws_l2 l X N i kk h hN hi N 0 c (Nat.zero_le _) rfl (by omega)
    exact ⟨k + 1, by rw [lathelaw11_MaskLaws.l1, if_neg (by omega)]; exact hk⟩
  | cons y ys ih =>
    intro j c hj hd hc
    obtain ⟨hlt, hg, hnext, _⟩ := drop_is hd
    rw [cntI] at hc
    by_cases he : y = (i : Int)
    · rw [if_pos he] at hc
      obtain ⟨k, hk⟩ := ih (j + 1) (c + 1) hlt hnext (by omega)
      exact ⟨k + 1, by rw [lathelaw11_MaskLaws.l1, if_pos (by omega), if_pos (by omega), rd_at hg, if_pos he, nx1 (by omega), nx1 (by omega), hk]⟩
    · rw [if_neg he] at hc
      obtain ⟨k, hk⟩ := ih (j + 1) c hlt hnext (by omega)
      exact ⟨k + 1, by rw [lathelaw11_MaskLaws.l1, if_pos (by omega), if_pos (by omega), rd_at hg, if_neg he, nx1 (by omega), hk]⟩
theorem laws_l0 (l : List Pm) (X N : List Int) (hl : l.length ≤ 4398046510976) (hX : X.length ≤ 4398046510976) (hN : N.length ≤ 4398046510976) (h1 : ∀ i : Nat, i < l.length → cntI (i : Int) X + cntI (i : Int) N = 1) :
    ∀ (d i : Nat), l.length - i = d → i ≤ l.length → ∃ k, lathelaw11_MaskLaws.l0 k l X N (i : Int) = some true := by
  intro d
  induction d with
  | zero =>
    intro i hd hi
    exact ⟨31, by rw [lathelaw11_MaskLaws.l0, if_neg (by omega), surely]; rfl⟩
  | succ d ih =>
    intro i hd hi
    obtain ⟨kk, hk⟩ := ih (i + 1) (by omega) (by omega)
    obtain ⟨k, hk1⟩ := laws_l1 l X N i kk hk hX hN (by omega) X 0 0 (Nat.zero_le _) rfl (by have := h1 i (by omega); omega)
    exact ⟨k + 1, by rw [lathelaw11_MaskLaws.l0, if_pos (by omega)]; exact hk1⟩
theorem laws_j1t (l : List Pm) (X Y : List Int) (a b : Nd) : ∃ k, lathelaw11_MaskLaws.j1 k l X Y true a.f0 a.f1 a.f2 a.f3 a.f4 a.f5 a.f6 b.f0 b.f1 b.f2 b.f3 b.f4 b.f5 b.f6 = some true :=
  ⟨31, by rw [lathelaw11_MaskLaws.j1, if_pos rfl, surely]; rfl⟩
/-- A mask of masks: what is asked of it. -/
def Good (l : List Pm) (x : Nd) : Prop := ok29 x ∧ flt l x = none
theorem good_set {l : List Pm} (hl : Sig l) {x : Nd} (h : Good l x) (hd : dep x ≤ 64) : ∃ k, mask_Set.f k x.f0 x.f1 x.f2 x.f3 x.f4 x.f5 x.f6 l = some (sel x l 0, 0, 0) := by
  obtain ⟨k, hk⟩ := set_is x h.1 (by omega) l hl
  rw [msk_sel hd h.2] at hk
  exact ⟨k, hk⟩
theorem good_one {l : List Pm} {a : Nd} (h : Good l a) : Good l (cl notB [ck a]) := ⟨ok_cl (by decide) (by simp) (fun y hy => by rw [List.mem_singleton] at hy; rw [hy]; exact ok_ck h.1), flt_not h.2⟩
theorem good_and {l : List Pm} {a b : Nd} (h : Good l a) (h2 : Good l b) : Good l (cl andB [ck a, ck b]) :=
  ⟨ok_cl (by decide) (by simp) (fun y hy => by simp only [List.mem_cons, List.not_mem_nil, or_false] at hy; rcases hy with rfl | rfl; exact ok_ck h.1; exact ok_ck h2.1), flt_and h.2 h2.2⟩
theorem good_or {l : List Pm} {a b : Nd} (h : Good l a) (h2 : Good l b) : Good l (cl orB [ck a, ck b]) :=
  ⟨ok_cl (by decide) (by simp) (fun y hy => by simp only [List.mem_cons, List.not_mem_nil, or_false] at hy; rcases hy with rfl | rfl; exact ok_ck h.1; exact ok_ck h2.1), flt_or h.2 h2.2⟩
theorem dep_one (nm : ByteArray) (a : Nd) : dep (cl nm [ck a]) = dep a + 1 := by rw [dep_cl, depL, depL, dep_ck]; omega
theorem dep_two (nm : ByteArray) (a b : Nd) : dep (cl nm [ck a, ck b]) = max (dep a) (dep b) + 1 := by rw [dep_cl, depL, depL, depL, dep_ck, dep_ck]; omega
theorem laws_j1f (l : List Pm) (hl : Sig l) (a b : Nd) (ga : Good l a) (gb : Good l b) (da : dep a ≤ 60) (db : dep b ≤ 60) :
    ∃ k, lathelaw11_MaskLaws.j1 k l (sel a l 0) (sel b l 0) false a.f0 a.f1 a.f2 a.f3 a.f4 a.f5 a.f6 b.f0 b.f1 b.f2 b.f3 b.f4 b.f5 b.f6 = some true := by
  have hll := hl.1
  have gn := good_one ga
  have gnb := good_one gb
  have gd := good_and ga gb
  have go := good_or ga gb
  have gm := good_one gn
  have gp := good_one gd
  have gq := good_or gn gnb
  have dn := dep_one notB a
  have dnb := dep_one notB b
  have dm := dep_one notB (cl notB [ck a])
  have dd := dep_two andB a b
  have dO := dep_two orB a b
  have dp := dep_one notB (cl andB [ck a, ck b])
  have dq := dep_two orB (cl notB [ck a]) (cl notB [ck b])
  have em : sel (cl notB [ck (cl notB [ck a])]) l 0 = sel a l 0 := sel_congr (fun p => by rw [inn_not, inn_not, Bool.not_not]) l 0
  have ep : sel (cl notB [ck (cl andB [ck a, ck b])]) l 0 = sel (cl orB [ck (cl notB [ck a]), ck (cl notB [ck b])]) l 0 := sel_congr (fun p => by rw [inn_not, inn_and, inn_or, inn_not, inn_not, Bool.not_and]) l 0
  have eo := sel_and_or a b l 0
  have en := sel_not a l 0
  have e1 : ∀ i : Nat, i < l.length → cntI (i : Int) (sel a l 0) + cntI (i : Int) (sel (cl notB [ck a]) l 0) = 1 := fun i hi => cnt_one a i l 0 (Nat.zero_le _) (by omega)
  have la := sel_len a l 0
  have lb := sel_len b l 0
  have c1 := call_not a
  have c2 := call_not (cl notB [ck a])
  have c3 := call_and a b
  have c4 := call_not (cl andB [ck a, ck b])
  have c5 := call_not b
  have c6 := call_or (cl notB [ck a]) (cl notB [ck b])
  have c7 := call_or a b
  generalize cl notB [ck b] = nb at *
  generalize hn : cl notB [ck a] = n at *
  generalize cl notB [ck n] = m at *
  generalize hd : cl andB [ck a, ck b] = d at *
  generalize cl notB [ck d] = p at *
  generalize cl orB [ck n, ck nb] = q at *
  generalize cl orB [ck a, ck b] = o at *
  clear hn hd
  obtain ⟨k1, s1⟩ := good_set hl gn (by omega)
  obtain ⟨k2, s2⟩ := good_set hl gm (by omega)
  obtain ⟨k3, s3⟩ := good_set hl gp (by omega)
  obtain ⟨k4, s4⟩ := good_set hl gq (by omega)
  obtain ⟨k5, s5⟩ := good_set hl gd (by omega)
  obtain ⟨k6, s6⟩ := good_set hl go (by omega)
  have ln := sel_len n l 0
  have lq := sel_len q l 0
  have ld := sel_len d l 0
  have lo := sel_len o l 0
  obtain ⟨k7, s7⟩ := same_is (sel a l 0) (by omega)
  obtain ⟨k8, s8⟩ := same_is (sel q l 0) (by omega)
  obtain ⟨k9, s9⟩ := laws_l0 l (sel a l 0) (sel n l 0) hll (by omega) (by omega) e1 _ 0 rfl (Nat.zero_le _)
  obtain ⟨K, hK⟩ : ∃ K, K = 4 + k1 + k2 + k3 + k4 + k5 + k6 + k7 + k8 + k9 := ⟨_, rfl⟩
  have C1 := more (fun k => lathelaw11_call.mono _ _ k) c1 (j := K + 1) (by omega)
  have C2 := more (fun k => lathelaw11_call.mono _ _ k) c2 (j := K + 1) (by omega)
  have C3 := more (fun k => lathelaw11_call.mono _ _ k) c3 (j := K + 1) (by omega)
  have C4 := more (fun k => lathelaw11_call.mono _ _ k) c4 (j := K + 1) (by omega)
  have C5 := more (fun k => lathelaw11_call.mono _ _ k) c5 (j := K + 1) (by omega)
  have C6 := more (fun k => lathelaw11_call.mono _ _ k) c6 (j := K + 1) (by omega)
  have C7 := more (fun k => lathelaw11_call.mono _ _ k) c7 (j := K + 1) (by omega)
  have S1 := more (fun k => mask_Set.mono _ _ _ _ _ _ _ _ k) s1 (j := K + 1) (by omega)
  have S2 := more (fun k => mask_Set.mono _ _ _ _ _ _ _ _ k) s2 (j := K + 1) (by omega)
  have S3 := more (fun k => mask_Set.mono _ _ _ _ _ _ _ _ k) s3 (j := K + 1) (by omega)
  have S4 := more (fun k => mask_Set.mono _ _ _ _ _ _ _ _ k) s4 (j := K + 1) (by omega)
  have S5 := more (fun k => mask_Set.mono _ _ _ _ _ _ _ _ k) s5 (j := K + 1) (by omega)
  have S6 := more (fun k => mask_Set.mono _ _ _ _ _ _ _ _ k) s6 (j := K + 1) (by omega)
  have S7 := more (fun k => lathelaw11_same.mono _ _ k) s7 (j := K + 1) (by omega)
  have S8 := more (fun k => lathelaw11_same.mono _ _ k) s8 (j := K + 1) (by omega)
  have S9 := more (fun k => (lathelaw11_MaskLaws.mono_l k).2.2.2.1 _ _ _ _) s9 (j := K) (by omega)
  rw [em] at S2
  rw [ep] at S3
  have w1 : wrap64 (((sel d l 0).length : Int) + ((sel o l 0).length : Int)) = wrap64 (((sel a l 0).length : Int) + ((sel b l 0).length : Int)) := by rw [wr64 _ (by omega) (by omega), wr64 _ (by omega) (by omega)]; omega
  have w2 : (wrap64 (((sel a l 0).length : Int) + ((sel n l 0).length : Int)) != (l.length : Int)) = false := by rw [wr64 _ (by omega) (by omega), bne_eq_false_iff_eq]; omega
  clear hK
  refine ⟨K + 2, ?_⟩
  rw [lathelaw11_MaskLaws.j1, if_neg (by decide)]
  refine bindS C1 (bindS S1 (bindS C1 (bindS C2 (bindS S2 (bindS C3 (bindS C4 (bindS S3 (bindS C1 (bindS C5 (bindS C6 (bindS S4 (bindS C3 (bindS S5 (bindS C7 (bindS S6 (bindS S7 ?_))))))))))))))))
  refine Eq.trans (if_pos rfl) (bindS S8 (Eq.trans (if_pos rfl) (Eq.trans (if_pos w1) ?_)))
  show lathelaw11_MaskLaws.j2 (K + 1) l (sel a l 0) (sel n l 0) (wrap64 (((sel a l 0).length : Int) + ((sel n l 0).length : Int)) != (l.length : Int)) = some true
  rw [w2, lathelaw11_MaskLaws.j2, if_neg (by decide)]
  exact S9
theorem laws_j0 (l : List Pm) (hl : Sig l) (a b : Nd) (ha : ok29 a) (hb : ok29 b) (t : Bool) (ht : t = false → dep a ≤ 1000000 ∧ dep b ≤ 1000000) : ∃ k, lathelaw11_MaskLaws.j0 k l t a.f0 a.f1 a.f2 a.f3 a.f4 a.f5 a.f6 b.f0 b.f1 b.f2 b.f3 b.f4 b.f5 b.f6 = some true := by
  cases t with
  | true => exact ⟨31, by rw [lathelaw11_MaskLaws.j0, if_pos rfl, surely]; rfl⟩
  | false =>
    obtain ⟨hda, hdb⟩ := ht rfl
    obtain ⟨k1, s1⟩ := set_is a ha hda l hl
    obtain ⟨k2, s2⟩ := set_is b hb hdb l hl
    obtain ⟨k3, s3⟩ := ref_depth a ha hda
    obtain ⟨k4, s4⟩ := ref_depth b hb hdb
    obtain ⟨k5, s5⟩ := laws_j1t l (msk a l).1 (msk b l).1 a b
    by_cases e1 : (msk a l).2.1 = 0
    · by_cases e2 : (msk b l).2.1 = 0
      · by_cases d1 : (dep a : Int) > 60
        · refine ⟨k1 + k2 + k3 + k4 + k5 + 1, ?_⟩
          rw [lathelaw11_MaskLaws.j0, if_neg (by decide)]
          refine bindS (more (fun k => mask_Set.mono _ _ _ _ _ _ _ _ k) s1 (by omega)) (bindS (more (fun k => mask_Set.mono _ _ _ _ _ _ _ _ k) s2 (by omega)) ?_)
          refine Eq.trans (if_pos e1) (Eq.trans (if_pos e2) (bindS (more (fun k => latheref07_Depth.mono _ _ _ _ _ _ _ k) s3 (by omega)) (Eq.trans (if_pos d1) ?_)))
          exact more (fun k => (lathelaw11_MaskLaws.mono_l k).2.1 _ _ _ _ _ _ _ _ _ _ _ _ _ _ _ _ _ _) s5 (by omega)
        · obtain ⟨k6, s6⟩ : ∃ k, lathelaw11_MaskLaws.j1 k l (msk a l).1 (msk b l).1 (decide ((dep b : Int) > 60)) a.f0 a.f1 a.f2 a.f3 a.f4 a.f5 a.f6 b.f0 b.f1 b.f2 b.f3 b.f4 b.f5 b.f6 = some true := by
            by_cases d2 : (dep b : Int) > 60
            · rw [decide_eq_true d2]; exact ⟨k5, s5⟩
            · rw [decide_eq_false d2]
              obtain ⟨q1, q2⟩ := msk_ok e1
              obtain ⟨q3, q4⟩ := msk_ok e2
              rw [msk_sel q1 q2, msk_sel q3 q4]
              exact laws_j1f l hl a b ⟨ha, q2⟩ ⟨hb, q4⟩ (by omega) (by omega)
          refine ⟨k1 + k2 + k3 + k4 + k6 + 1, ?_⟩
          rw [lathelaw11_MaskLaws.j0, if_neg (by decide)]
          refine bindS (more (fun k => mask_Set.mono _ _ _ _ _ _ _ _ k) s1 (by omega)) (bindS (more (fun k => mask_Set.mono _ _ _ _ _ _ _ _ k) s2 (by omega)) ?_)
          refine Eq.trans (if_pos e1) (Eq.trans (if_pos e2) (bindS (more (fun k => latheref07_Depth.mono _ _ _ _ _ _ _ k) s3 (by omega)) (Eq.trans (if_neg d1) (bindS (more (fun k => latheref07_Depth.mono _ _ _ _ _ _ _ k) s4 (by omega)) ?_))))
          exact more (fun k => (lathelaw11_MaskLaws.mono_l k).2.1 _ _ _ _ _ _ _ _ _ _ _ _ _ _ _ _ _ _) s6 (by omega)
      · refine ⟨k1 + k2 + k5 + 1, ?_⟩
        rw [lathelaw11_MaskLaws.j0, if_neg (by decide)]
        refine bindS (more (fun k => mask_Set.mono _ _ _ _ _ _ _ _ k) s1 (by omega)) (bindS (more (fun k => mask_Set.mono _ _ _ _ _ _ _ _ k) s2 (by omega)) ?_)
        refine Eq.trans (if_pos e1) (Eq.trans (if_neg e2) ?_)
        exact more (fun k => (lathelaw11_MaskLaws.mono_l k).2.1 _ _ _ _ _ _ _ _ _ _ _ _ _ _ _ _ _ _) s5 (by omega)
    · refine ⟨k1 + k2 + k5 + 1, ?_⟩
      rw [lathelaw11_MaskLaws.j0, if_neg (by decide)]
      refine bindS (more (fun k => mask_Set.mono _ _ _ _ _ _ _ _ k) s1 (by omega)) (bindS (more (fun k => mask_Set.mono _ _ _ _ _ _ _ _ k) s2 (by omega)) ?_)
      refine Eq.trans (if_neg e1) ?_
      exact more (fun k => (lathelaw11_MaskLaws.mono_l k).2.1 _ _ _ _ _ _ _ _ _ _ _ _ _ _ _ _ _ _) s5 (by omega)
theorem MaskLaws (x0 : S29) (x1 : S29) (l2 : (List S45)) (b0 : ok29 x0) (b1 : ok29 x1) (b2 : (l2.length * Try.prog.bytesOf 45 ≤ 140737488351232 ∧ ∀ x_ ∈ l2, ok45 x_)) : ∃ k, lathelaw11_MaskLaws.f k (x0.f0) (x0.f1) (x0.f2) (x0.f3) (x0.f4) (x0.f5) (x0.f6) (x1.f0) (x1.f1) (x1.f2) (x1.f3) (x1.f4) (x1.f5) (x1.f6) l2 = some true := by
  have hl := sig_of b2
  obtain ⟨ka, ha⟩ := big_is x0 b0
  obtain ⟨kb, hb⟩ := big_is x1 b1
  have d0 := dep_le_cnt x0
  have d1 := dep_le_cnt x1
  by_cases h0 : 9000 < cnt x0
  · obtain ⟨k1, h1⟩ := laws_j0 l2 hl x0 x1 b0 b1 true (fun h => by cases h)
    refine ⟨ka + k1, ?_⟩
    unfold lathelaw11_MaskLaws.f
    refine bindS (more (fun k => lathelaw11_big.mono _ _ _ _ _ _ _ k) ha (by omega)) (Eq.trans (if_pos (by simpa using h0)) ?_)
    exact more (fun k => (lathelaw11_MaskLaws.mono_l k).1 _ _ _ _ _ _ _ _ _ _ _ _ _ _ _ _) h1 (by omega)
  · obtain ⟨k1, h1⟩ := laws_j0 l2 hl x0 x1 b0 b1 (decide (9000 < cnt x1)) (fun h => by have := of_decide_eq_false h; omega)
    refine ⟨ka + kb + k1, ?_⟩
    unfold lathelaw11_MaskLaws.f
    refine bindS (more (fun k => lathelaw11_big.mono _ _ _ _ _ _ _ k) ha (by omega)) (Eq.trans (if_neg (by simpa using h0)) (bindS (more (fun k => lathelaw11_big.mono _ _ _ _ _ _ _ k) hb (by omega)) ?_))
    exact more (fun k => (lathelaw11_MaskLaws.mono_l k).1 _ _ _ _ _ _ _ _ _ _ _ _ _ _ _ _) h1 (by omega)
end Go.Proofs.Ytmlgidffgojkhaa.Pure
