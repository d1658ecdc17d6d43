/- Match of package mask tells whether a glob means a name: by globs' own meaning. Conditions: the texts are no longer than the reading lets them be. -/
import Derived.Test.YtmlgidffgojkhaaPureG
import Derived.Test.YtmlgidffgojkhaaQx1
namespace Go.Proofs.Ytmlgidffgojkhaa.Pure
set_option linter.unusedVariables false
open Go.RowKit Go.Proofs.Ytmlgidffgojkhaa.Q Go.Proofs.YtmlgidffgojkhaaW.PrintWords Go.Proofs.YtmlgidffgojkhaaW.PrintLast

theorem Gl.stars {g : List Int} : Gl g [] ↔ ∀ c ∈ g, c = 42 := by
  induction g with
  | nil => simp [Gl.nil_iff]
  | cons c g ih =>
    by_cases hc : c = 42
    · subst hc
      rw [Gl.star_iff]
      constructor
      · rintro ⟨i, hi, h⟩
        have : i = 0 := by simpa using hi
        subst this
        intro x hx
        rcases List.mem_cons.1 hx with rfl | hx
        · rfl
        · exact ih.1 h x hx
      · intro h
        exact ⟨0, by simp, ih.2 (fun x hx => h x (List.mem_cons_of_mem _ hx))⟩
    · constructor
      · intro h; exact absurd h (Gl.one_nil hc)
      · intro h; exact absurd (h c (List.mem_cons_self ..)) hc
theorem match_end (s : ByteArray) (hs : s.size ≤ 4611686018427387904) : ∀ (d g : Nat), s.size - g = d → g ≤ s.size → ∃ k r, mask_Match.l1 k s (g : Int) = some r ∧ (r = true ↔ Gl ((bl s).drop g) []) := by
  intro d
  induction d with
  | zero =>
    intro g hd hg
    refine ⟨1, true, ?_, ?_⟩
    · rw [mask_Match.l1, if_neg (by omega)]
      have : (g : Int) = (s.size : Int) := by omega
      simp [this]
    · rw [List.drop_of_length_le (by rw [bl_length]; omega), Gl.nil_iff]; simp
  | succ d ih =>
    intro g hd hg
    have hlt : g < s.size := by omega
    rw [bl_drop s g hlt]
    by_cases hc : bt s (g : Int) = 42
    · obtain ⟨k, r, hk, hr⟩ := ih (g + 1) (by omega) (by omega)
      refine ⟨k + 1, r, ?_, ?_⟩
      · rw [mask_Match.l1, if_pos (by omega), if_pos (by omega), if_pos hc, wr64 _ (by omega) (by omega)]
        exact_mod_cast hk
      · rw [hr, hc, Gl.stars, Gl.stars]
        constructor
        · intro h x hx
          rcases List.mem_cons.1 hx with rfl | hx
          · rfl
          · exact h x hx
        · intro h x hx; exact h x (List.mem_cons_of_mem _ hx)
    · refine ⟨1, false, ?_, ?_⟩
      · rw [mask_Match.l1, if_pos (by omega), if_pos (by omega), if_neg hc]
        have : ¬ (g : Int) = (s.size : Int) := by omega
        simp [this]
      · constructor
        · intro h; cases h
        · intro h; exact absurd h (Gl.one_nil hc)
/-- What is still to be asked: from here on, or from the last star on behind a later place. -/
def Ans (G N : List Int) (sp fr g n : Nat) : Prop := Gl (G.drop g) (N.drop n) ∨ (0 < sp ∧ ∃ f, fr < f ∧ f ≤ N.length ∧ Gl (G.drop sp) (N.drop f))
theorem drop_seg (G : List Int) {sp g : Nat} (h : sp ≤ g) : G.drop sp = (G.drop sp).take (g - sp) ++ G.drop g := by
  have := List.take_append_drop (g - sp) (G.drop sp)
  rw [List.drop_drop, show sp + (g - sp) = g from by omega] at this
  exact this.symm
/-- What a later place of the last star would mean, the part up to here being without stars. -/
theorem later {G N : List Int} {sp fr g n f : Nat} (hg : sp ≤ g) (hgl : g ≤ G.length) (hns : NoStar ((G.drop sp).take (g - sp))) (hn : fr ≤ n) (heq : n - fr = g - sp) (hf : fr < f) (hfl : f ≤ N.length) (h : Gl (G.drop sp) (N.drop f)) :
    f + (n - fr) ≤ N.length ∧ Gl (G.drop g) (N.drop (f + (n - fr))) := by
  rw [drop_seg G hg] at h
  obtain ⟨n1, n2, e, h1, h2⟩ := Gl.split h
  have hl := Gl.len hns h1
  rw [List.length_take, List.length_drop, Nat.min_eq_left (by omega)] at hl
  have he : n2 = N.drop (f + (n - fr)) := by
    have := congrArg (List.drop n1.length) e
    rw [List.drop_drop, List.drop_left, hl] at this
    rw [← this, heq]
  have hlen := congrArg List.length e
  rw [List.length_drop, List.length_append, hl] at hlen
  exact ⟨by omega, he ▸ h2⟩
theorem match_from (s t : ByteArray) (hs : s.size ≤ 4611686018427387904) (ht : t.size ≤ 4611686018427387904) (sp fr g n : Nat) (hg : g ≤ s.size) (hn : n ≤ t.size) (hsp : sp ≤ g) (hst : 0 < sp → fr ≤ n ∧ n - fr = g - sp ∧ NoStar (((bl s).drop sp).take (g - sp))) (hfr : fr ≤ n) :
    ∃ k r, mask_Match.l0 k s t ((sp : Int) - 1) (fr : Int) (g : Int) (n : Int) = some r ∧ (r = true ↔ Ans (bl s) (bl t) sp fr g n) := by
  by_cases hnl : n < t.size
  · -- a later place of the last star, where the step from here fails
    have back : (¬ Gl ((bl s).drop g) ((bl t).drop n)) → (∃ k r, mask_Match.j2 k s t ((sp : Int) - 1) (fr : Int) (g : Int) (n : Int) false = some r ∧ (r = true ↔ Ans (bl s) (bl t) sp fr g n)) := by
      intro hno
      by_cases h0 : 0 < sp
      · obtain ⟨h1, h2, h3⟩ := hst h0
        obtain ⟨k, r, hk, hr⟩ := match_from s t hs ht sp (fr + 1) sp (fr + 1) (by omega) (by omega) (by omega) (fun _ => ⟨by omega, by omega, by simp [NoStar]⟩) (by omega)
        refine ⟨k + 1, r, ?_, ?_⟩
        · rw [mask_Match.j2, if_neg (by decide), if_pos (by omega), wr64 _ (by omega) (by omega), wr64 _ (by omega) (by omega), show (sp : Int) - 1 + 1 = (sp : Int) from by omega]
          exact_mod_cast hk
        · rw [hr]
          unfold Ans
          constructor
          · rintro (h | ⟨_, f, hf, hf2, h⟩)
            · exact .inr ⟨h0, fr + 1, by omega, by rw [bl_length]; omega, h⟩
            · exact .inr ⟨h0, f, by omega, hf2, h⟩
          · rintro (h | ⟨_, f, hf, hf2, h⟩)
            · exact absurd h hno
            · by_cases he : f = fr + 1
              · exact .inl (he ▸ h)
              · exact .inr ⟨h0, f, by omega, hf2, h⟩
      · refine ⟨1, false, ?_, ?_⟩
        · rw [mask_Match.j2, if_neg (by decide), if_neg (by omega)]
        · constructor
          · intro h; cases h
          · rintro (h | ⟨h, _⟩)
            · exact absurd h hno
            · exact absurd h h0
    by_cases hgl : g < s.size
    · have hd := bl_drop s g hgl
      have hdn := bl_drop t n hnl
      by_cases hstar : bt s (g : Int) = 42
      · -- a new star
        obtain ⟨k, r, hk, hr⟩ := match_from s t hs ht (g + 1) n (g + 1) n (by omega) (by omega) (by omega) (fun _ => ⟨by omega, by omega, by simp [NoStar]⟩) (by omega)
        refine ⟨k + 1 + 1, r, ?_, ?_⟩
        · rw [mask_Match.l0, if_pos (by omega), if_pos (by omega), if_pos (by omega), mask_Match.j1, if_pos (by simp [hstar]), wr64 _ (by omega) (by omega)]
          have : ((g + 1 : Nat) : Int) - 1 = (g : Int) := by omega
          rw [this] at hk
          exact_mod_cast hk
        · rw [hr]
          unfold Ans
          rw [hd, hstar, Gl.star_iff]
          have hN : ((bl t).drop n).length = t.size - n := by rw [List.length_drop, bl_length]
          constructor
          · rintro (h | ⟨_, f, hf, hf2, h⟩)
            · exact .inl ⟨0, by omega, by simpa using h⟩
            · rw [bl_length] at hf2
              refine .inl ⟨f - n, by omega, ?_⟩
              rw [List.drop_drop, show n + (f - n) = f from by omega]
              exact h
          · rintro (⟨i, hi, h⟩ | ⟨h0, f, hf, hf2, h⟩)
            · rw [List.drop_drop] at h
              by_cases hi0 : i = 0
              · subst hi0; exact .inl (by simpa using h)
              · exact .inr ⟨by omega, n + i, by omega, by rw [bl_length]; omega, h⟩
            · obtain ⟨h1, h2, h3⟩ := hst h0
              obtain ⟨h4, h5⟩ := later (by omega) (by rw [bl_length]; omega) h3 h1 h2 hf hf2 h
              rw [hd, hstar, Gl.star_iff] at h5
              obtain ⟨i, hi, h5⟩ := h5
              rw [List.drop_drop] at h5
              rw [List.length_drop] at hi
              rw [bl_length] at hi h4
              exact .inr ⟨by omega, f + (n - fr) + i, by omega, by rw [bl_length]; omega, h5⟩
      · -- a sign
        have step : ∀ b, (b = true ↔ (bt s (g : Int) = 63 ∨ bt s (g : Int) = bt t (n : Int))) → ∃ k r, mask_Match.j2 k s t ((sp : Int) - 1) (fr : Int) (g : Int) (n : Int) b = some r ∧ (r = true ↔ Ans (bl s) (bl t) sp fr g n) := by
          intro b hb
          cases b with
          | true =>
            obtain ⟨k, r, hk, hr⟩ := match_from s t hs ht sp fr (g + 1) (n + 1) (by omega) (by omega) (by omega) (fun h0 => by
              obtain ⟨h1, h2, h3⟩ := hst h0
              refine ⟨by omega, by omega, ?_⟩
              have hl : ((bl s).drop sp)[g - sp]? = some (bt s (g : Int)) := by
                rw [List.getElem?_drop, show sp + (g - sp) = g from by omega]
                exact bl_at s g hgl
              rw [show g + 1 - sp = (g - sp) + 1 from by omega, List.take_add_one, hl]
              intro c hc
              rcases List.mem_append.1 hc with hc | hc
              · exact h3 c hc
              · have : c = bt s (g : Int) := by simpa using hc
                rw [this]; exact hstar) (by omega)
            refine ⟨k + 1, r, ?_, ?_⟩
            · rw [mask_Match.j2, if_pos rfl, wr64 _ (by omega) (by omega), wr64 _ (by omega) (by omega)]
              exact_mod_cast hk
            · rw [hr]
              unfold Ans
              rw [hd, hdn, Gl.one_iff hstar]
              constructor
              · rintro (h | h)
                · exact .inl ⟨hb.1 rfl, h⟩
                · exact .inr h
              · rintro (h | h)
                · exact .inl h.2
                · exact .inr h
          | false =>
            refine back ?_
            rw [hd, hdn, Gl.one_iff hstar]
            rintro ⟨h, _⟩
            exact absurd (hb.2 h) (by decide)
        by_cases hq : bt s (g : Int) = 63
        · obtain ⟨k, r, hk, hr⟩ := step true ⟨fun _ => .inl hq, fun _ => rfl⟩
          refine ⟨k + 1 + 1, r, ?_, hr⟩
          rw [mask_Match.l0, if_pos (by omega), if_pos (by omega), if_pos (by omega), mask_Match.j1, if_neg (by simp [hstar]), if_pos (by omega), if_pos (by omega), if_pos hq]
          exact hk
        · obtain ⟨k, r, hk, hr⟩ := step (bt s (g : Int) == bt t (n : Int)) ⟨fun h => .inr (by simpa using h), fun h => by
            rcases h with h | h
            · exact absurd h hq
            · simpa using h⟩
          refine ⟨k + 1 + 1, r, ?_, hr⟩
          rw [mask_Match.l0, if_pos (by omega), if_pos (by omega), if_pos (by omega), mask_Match.j1, if_neg (by simp [hstar]), if_pos (by omega), if_pos (by omega), if_neg hq, if_pos (by omega), if_pos (by omega)]
          exact hk
    · obtain ⟨k, r, hk, hr⟩ := back (by
        rw [List.drop_of_length_le (by rw [bl_length]; omega), Gl.nil_iff, bl_drop t n hnl]
        simp)
      refine ⟨k + 1 + 1, r, ?_, hr⟩
      rw [mask_Match.l0, if_pos (by omega), if_neg (by omega), mask_Match.j1, if_neg (by decide), if_neg (by omega)]
      exact hk
  · obtain ⟨k, r, hk, hr⟩ := match_end s hs _ g rfl hg
    have hnt : n = t.size := by omega
    refine ⟨k + 1, r, ?_, ?_⟩
    · rw [mask_Match.l0, if_neg (by omega)]
      exact hk
    · rw [hr]
      unfold Ans
      rw [List.drop_of_length_le (show (bl t).length ≤ n by rw [bl_length]; omega)]
      constructor
      · exact .inl
      · rintro (h | ⟨h0, f, hf, hf2, h⟩)
        · exact h
        · obtain ⟨h1, h2, h3⟩ := hst h0
          obtain ⟨h4, _⟩ := later (by omega) (by rw [bl_length]; omega) h3 h1 h2 hf hf2 h
          rw [bl_length] at h4
          omega
termination_by (s.size + 1 - sp, t.size + 1 - fr, t.size + 1 - n)
theorem match_is (s t : ByteArray) (hs : s.size ≤ 4611686018427387904) (ht : t.size ≤ 4611686018427387904) : ∃ k r, mask_Match.f k s t = some r ∧ (r = true ↔ Gl (bl s) (bl t)) := by
  obtain ⟨k, r, hk, hr⟩ := match_from s t hs ht 0 0 0 0 (by omega) (by omega) (by omega) (fun h => absurd h (by omega)) (by omega)
  refine ⟨k, r, hk, ?_⟩
  rw [hr]
  unfold Ans
  simp
end Go.Proofs.Ytmlgidffgojkhaa.Pure
