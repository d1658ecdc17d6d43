/- Match of package latheref11 comes to globs' own meaning too, and so to mask's Match. Conditions: the texts are no longer than the reading lets them be. -/
import Derived.Test.YtmlgidffgojkhaaPureM1
import Derived.Test.YtmlgidffgojkhaaQx2
namespace Go.Proofs.Ytmlgidffgojkhaa.Pure
set_option linter.unusedVariables false
open Go.RowKit Go.Proofs.Ytmlgidffgojkhaa.Q Go.Proofs.YtmlgidffgojkhaaW.PrintWords Go.Proofs.YtmlgidffgojkhaaW.PrintLast

theorem Gl.end_star {g N : List Int} {k : Nat} (hk : k ≤ N.length) : Gl (g ++ [42]) (N.take k) ↔ ∃ j, j ≤ k ∧ Gl g (N.take j) := by
  rw [Gl.app_iff]
  constructor
  · rintro ⟨n1, n2, e, h1, _⟩
    have hl : n1.length ≤ k := by
      have := congrArg List.length e
      rw [List.length_take, List.length_append] at this
      omega
    refine ⟨n1.length, hl, ?_⟩
    have : N.take n1.length = n1 := by
      have h2 := congrArg (List.take n1.length) e
      rw [List.take_take, List.take_left, Nat.min_eq_left hl] at h2
      exact h2
    rw [this]; exact h1
  · rintro ⟨j, hj, h⟩
    refine ⟨N.take j, (N.take k).drop j, ?_, h, Gl.star_any _⟩
    have := List.take_append_drop j (N.take k)
    rw [List.take_take, Nat.min_eq_left hj] at this
    exact this.symm
theorem Gl.end_star_step {g N : List Int} {k : Nat} (hk : k ≤ N.length) : Gl (g ++ [42]) (N.take k) ↔ Gl g (N.take k) ∨ (0 < k ∧ Gl (g ++ [42]) (N.take (k - 1))) := by
  rw [Gl.end_star hk, Gl.end_star (show k - 1 ≤ N.length by omega)]
  constructor
  · rintro ⟨j, hj, h⟩
    by_cases he : j = k
    · exact .inl (he ▸ h)
    · exact .inr ⟨by omega, j, by omega, h⟩
  · rintro (h | ⟨_, j, hj, h⟩)
    · exact ⟨k, by omega, h⟩
    · exact ⟨j, by omega, h⟩
theorem Gl.end_none {g : List Int} {c : Int} (hc : c ≠ 42) : ¬ Gl (g ++ [c]) [] := by
  rw [Gl.app_iff]
  rintro ⟨n1, n2, e, h1, h2⟩
  have : n2 = [] := by
    cases n2 with
    | nil => rfl
    | cons a b => simp at e
  rw [this] at h2
  exact Gl.one_nil hc h2
theorem Gl.end_one {g n : List Int} {c x : Int} (hc : c ≠ 42) : Gl (g ++ [c]) (n ++ [x]) ↔ (c = 63 ∨ c = x) ∧ Gl g n := by
  rw [Gl.app_iff]
  constructor
  · rintro ⟨n1, n2, e, h1, h2⟩
    cases n2 with
    | nil => exact absurd h2 (Gl.one_nil hc)
    | cons y n2 =>
      obtain ⟨h3, h4⟩ := (Gl.one_iff hc).1 h2
      rw [Gl.nil_iff] at h4
      subst h4
      obtain ⟨rfl, h5⟩ := List.append_inj' e rfl
      injection h5 with h5 _
      subst h5
      exact ⟨h3, h1⟩
  · rintro ⟨h, h1⟩
    exact ⟨n, [x], rfl, h1, (Gl.one_iff hc).2 ⟨h, .nil⟩⟩
/-- A row of answers: which beginnings does this beginning of the glob mean? Filled up to m; from there on false. -/
def Row (G N : List Int) (m : Nat) (r : List Bool) : Prop := r.length = N.length + 1 ∧ ∀ k, k ≤ N.length → (r.getD k false = true ↔ k < m ∧ Gl G (N.take k))
theorem Row.set {G N : List Int} {m : Nat} {r : List Bool} (h : Row G N m r) (hm : m ≤ N.length) (b : Bool) (hb : b = true ↔ Gl G (N.take m)) : Row G N (m + 1) (r.set m b) := by
  refine ⟨by rw [List.length_set]; exact h.1, fun k hk => ?_⟩
  have hr := h.2 k hk
  by_cases he : k = m
  · subst he
    have : (r.set k b).getD k false = b := by simp [List.getD, h.1, Nat.lt_succ_of_le hk]
    rw [this, hb]
    exact ⟨fun x => ⟨by omega, x⟩, fun x => x.2⟩
  · have : (r.set m b).getD k false = r.getD k false := by simp [List.getD, Ne.symm he]
    rw [this, hr]
    constructor
    · rintro ⟨h1, h2⟩; exact ⟨by omega, h2⟩
    · rintro ⟨h1, h2⟩; exact ⟨by omega, h2⟩
theorem Row.leave {G N : List Int} {m : Nat} {r : List Bool} (h : Row G N m r) (hm : m ≤ N.length) (hb : ¬ Gl G (N.take m)) : Row G N (m + 1) r := by
  refine ⟨h.1, fun k hk => ?_⟩
  rw [h.2 k hk]
  by_cases he : k = m
  · subst he
    exact ⟨fun x => absurd x.1 (by omega), fun x => absurd x.2 hb⟩
  · constructor
    · rintro ⟨h1, h2⟩; exact ⟨by omega, h2⟩
    · rintro ⟨h1, h2⟩; exact ⟨by omega, h2⟩
theorem Row.none (G N : List Int) : Row G N 0 (List.replicate (N.length + 1) false) := by
  refine ⟨by simp, fun k hk => ?_⟩
  have : (List.replicate (N.length + 1) false).getD k false = false := by
    simp only [List.getD, List.getElem?_replicate]
    split <;> rfl
  rw [this]
  simp
def IsRow (G N : List Int) (r : List Bool) : Prop := Row G N (N.length + 1) r
theorem Row.first (N : List Int) : IsRow [] N ((List.replicate (N.length + 1) false).set 0 true) := by
  refine ⟨by simp, fun k hk => ?_⟩
  rw [Gl.nil_iff]
  by_cases he : k = 0
  · subst he; simp [List.getD]
  · have : ((List.replicate (N.length + 1) false).set 0 true).getD k false = false := by
      simp only [List.getD, List.getElem?_set, if_neg (Ne.symm he), List.getElem?_replicate]
      split <;> rfl
    rw [this]
    constructor
    · intro h; cases h
    · rintro ⟨_, h⟩
      have := congrArg List.length h
      rw [List.length_take] at this
      simp at this
      rcases this with h | h
      · exact absurd h he
      · subst h; simp at hk; exact absurd hk he
theorem take_next (s : ByteArray) (i : Nat) (h : i < s.size) : (bl s).take (i + 1) = (bl s).take i ++ [bt s (i : Int)] := by
  rw [List.take_add_one, bl_at s i h]; rfl
theorem ref_match (s t : ByteArray) (hs : s.size ≤ 140737488355328) (ht : t.size ≤ 140737488355328) : ∀ (d i : Nat), s.size - i = d → i ≤ s.size → ∀ is : List Bool, IsRow ((bl s).take i) (bl t) is → ∃ k r, latheref11_Match.l0 k s t is (i : Int) = some r ∧ (r = true ↔ Gl (bl s) (bl t)) := by
  have hN : (bl t).length = t.size := bl_length t
  intro d
  induction d with
  | zero =>
    intro i hd hi is hr
    refine ⟨1, is.getD t.size false, ?_, ?_⟩
    · rw [latheref11_Match.l0, if_neg (by omega), if_pos (by omega), if_pos (by rw [hr.1, hN]; omega)]
      rfl
    · rw [hr.2 _ (by omega), List.take_of_length_le (show (bl t).length ≤ t.size by omega), List.take_of_length_le (show (bl s).length ≤ i by rw [bl_length]; omega)]
      exact ⟨fun h => h.2, fun h => ⟨by omega, h⟩⟩
  | succ d ih =>
    intro i hd hi is hr
    have hlt : i < s.size := by omega
    have inner : ∀ (e m : Nat), t.size + 1 - m = e → m ≤ t.size + 1 → ∀ next : List Bool, Row ((bl s).take (i + 1)) (bl t) m next → ∃ k r, latheref11_Match.l1 k s t is (i : Int) next (m : Int) = some r ∧ (r = true ↔ Gl (bl s) (bl t)) := by
      intro e
      induction e with
      | zero =>
        intro m he hm next hn
        have : m = (bl t).length + 1 := by omega
        subst this
        obtain ⟨k, r, hk, h⟩ := ih (i + 1) (by omega) (by omega) next hn
        refine ⟨k + 1, r, ?_, h⟩
        rw [latheref11_Match.l1, if_neg (by omega), wr64 _ (by omega) (by omega)]
        exact_mod_cast hk
      | succ e ih2 =>
        intro m he hm next hn
        have hmt : m ≤ t.size := by omega
        have goOn : ∀ next', Row ((bl s).take (i + 1)) (bl t) (m + 1) next' → ∃ k r, latheref11_Match.l1 k s t is (i : Int) next' (wrap64 ((m : Int) + 1)) = some r ∧ (r = true ↔ Gl (bl s) (bl t)) := by
          intro next' hn'
          obtain ⟨k, r, hk, h⟩ := ih2 (m + 1) (by omega) (by omega) next' hn'
          refine ⟨k, r, ?_, h⟩
          rw [wr64 _ (by omega) (by omega)]
          exact_mod_cast hk
        have hlen := hn.1
        have hlis := hr.1
        have ht1 := take_next s i hlt
        by_cases hstar : bt s (i : Int) = 42
        · have hstep := @Gl.end_star_step ((bl s).take i) (bl t) m (by omega)
          by_cases his : is.getD m false = true
          · obtain ⟨k, r, hk, h⟩ := goOn _ (hn.set (by omega) true (by rw [ht1, hstar, hstep]; exact ⟨fun _ => .inl ((hr.2 m (by omega)).1 his).2, fun _ => rfl⟩))
            refine ⟨k + 1, r, ?_, h⟩
            rw [latheref11_Match.l1, if_pos (by omega), if_pos (by omega), if_pos (by omega), if_pos hstar, if_pos (by omega), if_pos (by omega), if_pos (show rdOf false is (m : Int) = true from his), if_pos (by omega)]
            exact hk
          · have hno : ¬ Gl ((bl s).take i) ((bl t).take m) := fun x => his ((hr.2 m (by omega)).2 ⟨by omega, x⟩)
            by_cases hm0 : 0 < m
            · have hw : wrap64 ((m : Int) - 1) = ((m - 1 : Nat) : Int) := by rw [wr64 _ (by omega) (by omega)]; omega
              obtain ⟨k, r, hk, h⟩ := goOn _ (hn.set (by omega) (next.getD (m - 1) false) (by
                rw [hn.2 _ (by omega), ht1, hstar, hstep]
                constructor
                · rintro ⟨_, x⟩; exact .inr ⟨hm0, x⟩
                · rintro (x | ⟨_, x⟩)
                  · exact absurd x hno
                  · exact ⟨by omega, x⟩))
              refine ⟨k + 1, r, ?_, h⟩
              rw [latheref11_Match.l1, if_pos (by omega), if_pos (by omega), if_pos (by omega), if_pos hstar, if_pos (by omega), if_pos (by omega), if_neg (show ¬ rdOf false is (m : Int) = true from his), if_pos (by omega), if_pos (by omega), if_pos (by omega), if_pos (by omega), hw]
              exact hk
            · obtain ⟨k, r, hk, h⟩ := goOn _ (hn.set (by omega) false (by
                rw [ht1, hstar, hstep]
                constructor
                · intro x; cases x
                · rintro (x | ⟨x, _⟩)
                  · exact absurd x hno
                  · exact absurd x hm0))
              refine ⟨k + 1, r, ?_, h⟩
              rw [latheref11_Match.l1, if_pos (by omega), if_pos (by omega), if_pos (by omega), if_pos hstar, if_pos (by omega), if_pos (by omega), if_neg (show ¬ rdOf false is (m : Int) = true from his), if_neg (by omega), if_pos (by omega)]
              exact hk
        · by_cases hm0 : 0 < m
          · have hw : wrap64 ((m : Int) - 1) = ((m - 1 : Nat) : Int) := by rw [wr64 _ (by omega) (by omega)]; omega
            have htm : (bl t).take m = (bl t).take (m - 1) ++ [bt t ((m - 1 : Nat) : Int)] := by
              have := take_next t (m - 1) (by omega)
              rwa [show m - 1 + 1 = m from by omega] at this
            have hstep : Gl ((bl s).take (i + 1)) ((bl t).take m) ↔ (bt s (i : Int) = 63 ∨ bt s (i : Int) = bt t ((m - 1 : Nat) : Int)) ∧ Gl ((bl s).take i) ((bl t).take (m - 1)) := by
              rw [ht1, htm, Gl.end_one hstar]
            have hset : (bt s (i : Int) = 63 ∨ bt s (i : Int) = bt t ((m - 1 : Nat) : Int)) → ∃ k r, latheref11_Match.l1 k s t is (i : Int) (next.set m (is.getD (m - 1) false)) (wrap64 ((m : Int) + 1)) = some r ∧ (r = true ↔ Gl (bl s) (bl t)) := by
              intro hor
              refine goOn _ (hn.set (by omega) _ ?_)
              rw [hstep, hr.2 _ (by omega)]
              exact ⟨fun x => ⟨hor, x.2⟩, fun x => ⟨by omega, x.2⟩⟩
            by_cases hq : bt s (i : Int) = 63
            · obtain ⟨k, r, hk, h⟩ := hset (.inl hq)
              refine ⟨k + 1, r, ?_, h⟩
              rw [latheref11_Match.l1, if_pos (by omega), if_pos (by omega), if_pos (by omega), if_neg hstar, if_pos (by omega), if_pos hq, hw, if_pos (by omega), if_pos (by omega), if_pos (by omega), if_pos (by omega)]
              exact hk
            · by_cases hx : bt s (i : Int) = bt t ((m - 1 : Nat) : Int)
              · obtain ⟨k, r, hk, h⟩ := hset (.inr hx)
                refine ⟨k + 1, r, ?_, h⟩
                rw [latheref11_Match.l1, if_pos (by omega), if_pos (by omega), if_pos (by omega), if_neg hstar, if_pos (by omega), if_neg hq, hw, if_pos (by omega), if_pos (by omega), if_pos hx, if_pos (by omega), if_pos (by omega), if_pos (by omega)]
                exact hk
              · obtain ⟨k, r, hk, h⟩ := goOn next (hn.leave (by omega) (by
                  rw [hstep]
                  rintro ⟨x | x, _⟩
                  · exact hq x
                  · exact hx x))
                refine ⟨k + 1, r, ?_, h⟩
                rw [latheref11_Match.l1, if_pos (by omega), if_pos (by omega), if_pos (by omega), if_neg hstar, if_pos (by omega), if_neg hq, hw, if_pos (by omega), if_pos (by omega), if_neg hx]
                exact hk
          · obtain ⟨k, r, hk, h⟩ := goOn next (hn.leave (by omega) (by
              have : m = 0 := by omega
              subst this
              rw [ht1]
              exact Gl.end_none hstar))
            refine ⟨k + 1, r, ?_, h⟩
            rw [latheref11_Match.l1, if_pos (by omega), if_pos (by omega), if_pos (by omega), if_neg hstar, if_neg (by omega)]
            exact hk
    obtain ⟨k, r, hk, h⟩ := inner (t.size + 1) 0 (by omega) (by omega) _ (Row.none _ _)
    refine ⟨k + 1, r, ?_, h⟩
    have hw : wrap64 ((t.size : Int) + 1) = ((t.size + 1 : Nat) : Int) := by rw [wr64 _ (by omega) (by omega)]; omega
    rw [latheref11_Match.l0, if_pos (by omega), hw, Int.toNat_natCast, if_pos (by omega), if_pos (by omega), ← hN]
    exact_mod_cast hk
theorem ref_match_is (s t : ByteArray) (hs : s.size ≤ 140737488355328) (ht : t.size ≤ 140737488355328) : ∃ k r, latheref11_Match.f k s t = some r ∧ (r = true ↔ Gl (bl s) (bl t)) := by
  obtain ⟨k, r, hk, h⟩ := ref_match s t hs ht _ 0 rfl (by omega) _ (Row.first (bl t))
  refine ⟨k, r, ?_, h⟩
  have hw : wrap64 ((t.size : Int) + 1) = ((t.size + 1 : Nat) : Int) := by rw [wr64 _ (by omega) (by omega)]; omega
  unfold latheref11_Match.f
  rw [hw, Int.toNat_natCast, if_pos (by omega), if_pos (by omega), Option.bind_some, if_pos (by simp), ← bl_length t]
  exact hk
theorem bool_eq {a b : Bool} {P : Prop} (h1 : a = true ↔ P) (h2 : b = true ↔ P) : a = b := by
  cases a <;> cases b <;> simp_all
/-- Both answer alike. -/
theorem matches_same (s t : ByteArray) (hs : s.size ≤ 140737488355328) (ht : t.size ≤ 140737488355328) : ∃ k r, mask_Match.f k s t = some r ∧ latheref11_Match.f k s t = some r ∧ (r = true ↔ Gl (bl s) (bl t)) := by
  obtain ⟨k1, r1, h1, g1⟩ := match_is s t (by omega) (by omega)
  obtain ⟨k2, r2, h2, g2⟩ := ref_match_is s t hs ht
  have : r1 = r2 := bool_eq g1 g2
  subst this
  exact ⟨max k1 k2, r1, more (mask_Match.mono s t) h1 (Nat.le_max_left ..), more (latheref11_Match.mono s t) h2 (Nat.le_max_right ..), g1⟩
end Go.Proofs.Ytmlgidffgojkhaa.Pure
