/- Regions that draw their order: what is done apart may be done in any order. No conditions. -/
import Derived.Test.YtbhmhngkacbinaaAbV
namespace Go.Ab
open Go.RowKit
set_option autoImplicit false
set_option linter.unusedSimpArgs false

/-- The last step that counts, of the first n. -/
def cur (p : Nat → Bool) : Nat → Nat
  | 0 => 0
  | i + 1 => if p i then i + 1 else cur p i
theorem cur_congr {p q : Nat → Bool} : ∀ n, (∀ i, i < n → p i = q i) → cur p n = cur q n
  | 0, _ => rfl
  | n + 1, h => by simp only [cur]; rw [h n (by omega), cur_congr n (fun i hi => h i (by omega))]
theorem cur_none {p : Nat → Bool} {m : Nat} : ∀ n, m ≤ n → (∀ i, m ≤ i → i < n → p i = false) → cur p n = cur p m
  | 0, hmn, h => by obtain rfl : m = 0 := (by omega); rfl
  | n + 1, hmn, h => by
    rcases Nat.lt_or_ge n m with hlt | hge
    · obtain rfl : m = n + 1 := (by omega); rfl
    · simp only [cur]
      rw [h n hge (by omega)]
      simp only [Bool.false_eq_true, if_false]
      exact cur_none n hge (fun i h1 h2 => h i h1 (by omega))
theorem cur_le (p : Nat → Bool) : ∀ n, cur p n ≤ n
  | 0 => Nat.le_refl _
  | n + 1 => by simp only [cur]; split <;> have := cur_le p n <;> omega
/-- What does not change but at steps that count is, behind the last of them, as it is behind them all. -/
theorem cur_val {α : Type} {p : Nat → Bool} {val : Nat → α} {n : Nat} (h : ∀ i, i < n → p i = false → val (i + 1) = val i) : val (cur p n) = val n := by
  induction n with
  | zero => rfl
  | succ n ih =>
    simp only [cur]
    cases hp : p n with
    | true => simp
    | false =>
      simp only [Bool.false_eq_true, if_false]
      rw [ih (fun i hi => h i (by omega)), h n (by omega) hp]

theorem apartL_iff {a b : List Nat} (h : apartL a b = true) : ∀ i ∈ a, i ∉ b := by
  induction a with
  | nil => simp
  | cons x r ih =>
    simp only [apartL, Bool.and_eq_true, Bool.not_eq_true'] at h
    intro i hi
    rcases List.mem_cons.1 hi with rfl | hi
    · intro hb
      have := mem_iff.2 hb
      rw [h.1] at this
      cases this
    · exact ih h.2 i hi
/-- Two steps that touch nothing of each other. -/
structure Free (f g : Foot) : Prop where
  fb : f.bar = false
  gb : g.bar = false
  wr : ∀ x ∈ f.wr, x ∉ g.rd
  ww : ∀ x ∈ f.wr, x ∉ g.wr
  rw_ : ∀ x ∈ g.wr, x ∉ f.rd
theorem oneOk_iff {m : Nat} {f : Foot} : ∀ {i : Nat} {l : List Foot}, oneOk m f i l = true → ∀ (k : Nat) (g : Foot), l[k]? = some g → m.testBit (i + k) = true ∨ Free f g
  | i, [], _, k, g, h => by simp at h
  | i, x :: r, h, k, g, hk => by
    simp only [oneOk, Bool.and_eq_true, Bool.or_eq_true, Bool.not_eq_true'] at h
    cases k with
    | zero =>
      simp at hk; subst hk
      rcases h.1 with h1 | ⟨h1, h2, h3⟩
      · exact .inl h1
      · simp only [footsApart, Bool.and_eq_true] at h3
        exact .inr ⟨h1, h2, apartL_iff h3.1, apartL_iff h3.2.1, fun x hx => apartL_iff h3.2.2 x hx⟩
    | succ k =>
      have := oneOk_iff h.2 k g (by simpa using hk)
      rwa [show i + 1 + k = i + (k + 1) from by omega] at this
theorem footsOk_iff : ∀ {ms : List Nat} {fs before : List Foot}, footsOk ms fs before = true → ms.length = fs.length ∧ ∀ (j : Nat) (m : Nat) (f : Foot), ms[j]? = some m → fs[j]? = some f → ∀ (k : Nat) (g : Foot), k < before.length + j → (before ++ fs)[k]? = some g → m.testBit k = true ∨ Free f g
  | [], [], before, _ => ⟨rfl, fun j m f h => by simp at h⟩
  | [], _ :: _, _, h => by simp [footsOk] at h
  | _ :: _, [], _, h => by simp [footsOk] at h
  | m :: ms, f :: fs, before, h => by
    simp only [footsOk, Bool.and_eq_true] at h
    obtain ⟨h1, h2⟩ := footsOk_iff h.2
    refine ⟨by simp [h1], fun j m' f' hm hf k g hk hg => ?_⟩
    cases j with
    | zero =>
      simp at hm hf; subst hm; subst hf
      rw [List.getElem?_append_left (by omega)] at hg
      have := oneOk_iff h.1 k g hg
      rwa [Nat.zero_add] at this
    | succ j =>
      refine h2 j m' f' (by simpa using hm) (by simpa using hf) k g (by simp; omega) ?_
      rw [List.append_assoc]
      exact hg

theorem orBits (acc : Array Nat) (i : Nat) : ∀ (es : List Edge) (s : Nat), (es.foldl (fun s e => if Region.binds .any e then s ||| 2 ^ e.on ||| acc.getD e.on 0 else s) s).testBit i = true → s.testBit i = true ∨ ∃ e ∈ es, Region.binds .any e = true ∧ (i = e.on ∨ (acc.getD e.on 0).testBit i = true)
  | [], s, h => .inl h
  | e :: es, s, h => by
    simp only [List.foldl_cons] at h
    rcases orBits acc i es _ h with h1 | ⟨e', h1, h2⟩
    · split at h1
      · rename_i hb
        simp only [Nat.testBit_or, Bool.or_eq_true, Nat.testBit_two_pow] at h1
        rcases h1 with (h1 | h1) | h1
        · exact .inl h1
        · exact .inr ⟨e, List.mem_cons_self .., hb, .inl (by simp at h1; exact h1.symm)⟩
        · exact .inr ⟨e, List.mem_cons_self .., hb, .inr h1⟩
      · exact .inl h1
    · exact .inr ⟨e', List.mem_cons_of_mem _ h1, h2⟩
/-- Who must come before whom: by an edge, and what must come before that. -/
theorem before_spec (ops : List Oper) : (Region.before ops.toArray).size = ops.length ∧ ∀ (j : Nat) (o : Oper) (m i : Nat), ops[j]? = some o → (Region.before ops.toArray)[j]? = some m → m.testBit i = true → ∃ e ∈ o.after, Region.binds .any e = true ∧ (i = e.on ∨ ∃ m', (Region.before ops.toArray)[e.on]? = some m' ∧ e.on < j ∧ m'.testBit i = true) := by
  have key : ∀ (l : List Oper) (acc : Array Nat), let r := l.foldl (fun acc o => acc.push (o.after.foldl (fun s e => if Region.binds .any e then s ||| 2 ^ e.on ||| acc.getD e.on 0 else s) 0)) acc
      r.size = acc.size + l.length ∧ (∀ j, j < acc.size → r[j]? = acc[j]?) ∧ ∀ (j : Nat) (o : Oper) (m i : Nat), l[j]? = some o → r[acc.size + j]? = some m → m.testBit i = true → ∃ e ∈ o.after, Region.binds .any e = true ∧ (i = e.on ∨ ∃ m', r[e.on]? = some m' ∧ e.on < acc.size + j ∧ m'.testBit i = true) := by
    intro l
    induction l with
    | nil => intro acc; exact ⟨rfl, fun _ _ => rfl, fun j o m i h => by simp at h⟩
    | cons x l ih =>
      intro acc
      simp only [List.foldl_cons]
      obtain ⟨h1, h2, h3⟩ := ih (acc.push (x.after.foldl (fun s e => if Region.binds .any e then s ||| 2 ^ e.on ||| acc.getD e.on 0 else s) 0))
      simp only [Array.size_push] at h1 h2 h3
      refine ⟨by rw [h1, List.length_cons]; omega, fun j hj => ?_, fun j o m i ho hm hi => ?_⟩
      · rw [h2 j (by omega), Array.getElem?_push, if_neg (by omega)]
      · cases j with
        | zero =>
          simp at ho; subst ho
          rw [Nat.add_zero, h2 _ (by omega), Array.getElem?_push_size] at hm
          cases hm
          rw [← Array.foldl_toList] at hi
          rcases orBits acc i _ _ hi with h0 | ⟨e, he, hb, hx⟩
          · simp at h0
          · refine ⟨e, by simpa using he, hb, hx.imp (fun h => h) (fun hx => ?_)⟩
            rcases Nat.lt_or_ge e.on acc.size with hlt | hge
            · refine ⟨acc.getD e.on 0, ?_, by omega, hx⟩
              rw [h2 _ (by omega), Array.getElem?_push, if_neg (by omega), Array.getD_eq_getD_getElem?, Array.getElem?_eq_getElem hlt]
              rfl
            · rw [Array.getD_eq_getD_getElem?, Array.getElem?_eq_none hge] at hx
              simp at hx
        | succ j =>
          have := h3 j o m i (by simpa using ho) (by rw [show acc.size + 1 + j = acc.size + (j + 1) from by omega]; exact hm) hi
          rwa [show acc.size + 1 + j = acc.size + (j + 1) from by omega] at this
  obtain ⟨h1, _, h3⟩ := key ops #[]
  have e : Region.before ops.toArray = ops.foldl (fun acc o => acc.push (o.after.foldl (fun s e => if Region.binds .any e then s ||| 2 ^ e.on ||| acc.getD e.on 0 else s) 0)) #[] := by
    unfold Region.before
    rw [← Array.foldl_toList]
  rw [e]
  exact ⟨by simpa using h1, fun j o m i ho hm hi => by simpa using h3 j o m i ho (by simpa using hm) hi⟩
/-- The states of a region, run in the text's order. -/
theorem dsteps_seq {E : Env} {run : Run} {ops : List Oper} : ∀ {l : List Oper} {s s' : St} {fs : List Foot}, dsteps E run ops l s = some (fs, s') → ∃ st : Nat → St, st 0 = s ∧ st l.length = s' ∧ fs.length = l.length ∧ ∀ (i : Nat) (o : Oper), l[i]? = some o → ∃ f, fs[i]? = some f ∧ dstep E run ops (st i) o = some (f, st (i + 1))
  | [], s, s', fs, h => by
    simp [dsteps] at h
    obtain ⟨rfl, rfl⟩ := h
    exact ⟨fun _ => s, rfl, rfl, rfl, by simp⟩
  | o :: l, s, s', fs, h => by
    simp only [dsteps] at h
    cases h1 : dstep E run ops s o with
    | none => simp [h1] at h
    | some r =>
      obtain ⟨f, s1⟩ := r
      simp only [h1] at h
      cases h2 : dsteps E run ops l s1 with
      | none => simp [h2] at h
      | some r2 =>
        obtain ⟨fs2, s2⟩ := r2
        simp only [h2, Option.some.injEq, Prod.mk.injEq] at h
        obtain ⟨rfl, rfl⟩ := h
        obtain ⟨st, g1, g2, g3, g4⟩ := dsteps_seq h2
        refine ⟨fun i => match i with | 0 => s | i + 1 => st i, rfl, g2, by simp [g3], fun i o' ho => ?_⟩
        cases i with
        | zero => simp at ho; subst ho; exact ⟨f, rfl, by show dstep E run ops s o = some (f, st 0); rw [g1]; exact h1⟩
        | succ i => exact g4 i o' (by simpa using ho)
end Go.Ab
