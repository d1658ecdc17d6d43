/- Plain lemmas on globs: what a glob means, both ways of asking come to it. No conditions. -/
import Derived.Test.YtmlgidffgojkhaaPureS
namespace Go.Proofs.Ytmlgidffgojkhaa.Pure
set_option linter.unusedVariables false

/-- A glob means a name: 42 any text, 63 any one sign, else the sign itself. -/
inductive Gl : List Int → List Int → Prop
  | nil : Gl [] []
  | skip {g n} : Gl g n → Gl (42 :: g) n
  | take {g x n} : Gl (42 :: g) n → Gl (42 :: g) (x :: n)
  | one {c g x n} : c ≠ 42 → (c = 63 ∨ c = x) → Gl g n → Gl (c :: g) (x :: n)
theorem Gl.app {g1 n1 g2 n2 : List Int} (h : Gl g1 n1) (k : Gl g2 n2) : Gl (g1 ++ g2) (n1 ++ n2) := by
  induction h with
  | nil => exact k
  | skip _ ih => exact .skip ih
  | take _ ih => exact .take ih
  | one h1 h2 _ ih => exact .one h1 h2 ih
theorem Gl.star_any : ∀ n : List Int, Gl [42] n
  | [] => .skip .nil
  | _ :: n => .take (Gl.star_any n)
theorem Gl.star_more {g : List Int} (m : List Int) : ∀ {n : List Int}, Gl (42 :: g) n → Gl (42 :: g) (m ++ n) := by
  intro n h
  induction m with
  | nil => exact h
  | cons x m ih => exact .take ih
theorem Gl.star_inv {g n : List Int} (h : Gl (42 :: g) n) : ∃ m n', n = m ++ n' ∧ Gl g n' := by
  generalize hg : (42 :: g) = gg at h
  induction h with
  | nil => cases hg
  | skip h _ => injection hg with _ e; subst e; exact ⟨[], _, rfl, h⟩
  | take h ih =>
    obtain ⟨m, n', rfl, hn⟩ := ih hg
    exact ⟨_ :: m, n', rfl, hn⟩
  | one h1 _ _ _ => injection hg with e _; exact absurd e.symm h1
theorem Gl.star_iff {g n : List Int} : Gl (42 :: g) n ↔ ∃ i, i ≤ n.length ∧ Gl g (n.drop i) := by
  constructor
  · intro h
    obtain ⟨m, n', rfl, hn⟩ := h.star_inv
    exact ⟨m.length, by simp, by simpa using hn⟩
  · rintro ⟨i, hi, h⟩
    have := Gl.star_more (n.take i) (Gl.skip h)
    rwa [List.take_append_drop] at this
theorem Gl.one_iff {c x : Int} {g n : List Int} (hc : c ≠ 42) : Gl (c :: g) (x :: n) ↔ (c = 63 ∨ c = x) ∧ Gl g n := by
  constructor
  · intro h
    cases h with
    | skip => exact absurd rfl hc
    | take => exact absurd rfl hc
    | one _ h2 h3 => exact ⟨h2, h3⟩
  · rintro ⟨h2, h3⟩; exact .one hc h2 h3
theorem Gl.one_nil {c : Int} {g : List Int} (hc : c ≠ 42) : ¬ Gl (c :: g) [] := by
  intro h
  cases h with
  | skip => exact hc rfl
theorem Gl.nil_iff {n : List Int} : Gl [] n ↔ n = [] := by
  constructor
  · intro h; cases h; rfl
  · rintro rfl; exact .nil
theorem Gl.split {g1 g2 : List Int} : ∀ {n : List Int}, Gl (g1 ++ g2) n → ∃ n1 n2, n = n1 ++ n2 ∧ Gl g1 n1 ∧ Gl g2 n2 := by
  induction g1 with
  | nil => intro n h; exact ⟨[], n, rfl, .nil, h⟩
  | cons c g1 ih =>
    intro n h
    by_cases hc : c = 42
    · subst hc
      obtain ⟨m, n', rfl, hn⟩ := Gl.star_inv h
      obtain ⟨a, b, rfl, ha, hb⟩ := ih hn
      exact ⟨m ++ a, b, by simp, Gl.star_more m (.skip ha), hb⟩
    · cases n with
      | nil => exact absurd h (Gl.one_nil hc)
      | cons x n =>
        obtain ⟨h2, h3⟩ := (Gl.one_iff hc).1 h
        obtain ⟨a, b, rfl, ha, hb⟩ := ih h3
        exact ⟨x :: a, b, rfl, .one hc h2 ha, hb⟩
theorem Gl.app_iff {g1 g2 n : List Int} : Gl (g1 ++ g2) n ↔ ∃ n1 n2, n = n1 ++ n2 ∧ Gl g1 n1 ∧ Gl g2 n2 :=
  ⟨Gl.split, fun ⟨_, _, e, h1, h2⟩ => e ▸ h1.app h2⟩
/-- No stars and marks. -/
def Bare (g : List Int) : Prop := ∀ c ∈ g, c ≠ 42 ∧ c ≠ 63
def NoStar (g : List Int) : Prop := ∀ c ∈ g, c ≠ 42
theorem Gl.bare {g : List Int} (h : Bare g) : ∀ {n : List Int}, Gl g n ↔ n = g := by
  induction g with
  | nil => intro n; exact Gl.nil_iff
  | cons c g ih =>
    intro n
    obtain ⟨h1, h2⟩ := h c (List.mem_cons_self ..)
    have ih' := @ih (fun x hx => h x (List.mem_cons_of_mem _ hx))
    cases n with
    | nil => constructor
             · intro hh; exact absurd hh (Gl.one_nil h1)
             · intro hh; cases hh
    | cons x n =>
      rw [Gl.one_iff h1, ih']
      constructor
      · rintro ⟨h3, h4⟩
        rcases h3 with h3 | h3
        · exact absurd h3 h2
        · rw [h3, h4]
      · intro hh
        injection hh with e1 e2
        exact ⟨.inr e1.symm, e2⟩
theorem Gl.len {g : List Int} (h : NoStar g) : ∀ {n : List Int}, Gl g n → n.length = g.length := by
  induction g with
  | nil => intro n hh; rw [Gl.nil_iff.1 hh]
  | cons c g ih =>
    intro n hh
    have h1 := h c (List.mem_cons_self ..)
    cases n with
    | nil => exact absurd hh (Gl.one_nil h1)
    | cons x n =>
      have := ih (fun y hy => h y (List.mem_cons_of_mem _ hy)) ((Gl.one_iff h1).1 hh).2
      simp [this]
end Go.Proofs.Ytmlgidffgojkhaa.Pure
