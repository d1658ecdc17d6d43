/- An argument that can be read as data, opened: the cells say a Lean value of the argument's kind (PrintWords' kinds), and what its reading bounds holds of it. Plain lemmas over any program; conditions: those that each names. -/
import Derived.Test.YtbfomjbencbmlaaWWords
import Derived.ChangeArms
import Derived.DataReads
import Derived.WideShapes
import Derived.ChangeShapes
import Derived.SizedLaws
namespace Go.Proofs.Ytbfomjbencbmlaa.Opens
open Go.RowKit Go.ChangeShapes Go.WideShapes Go.Proofs.YtbfomjbencbmlaaW.PrintWords
set_option linter.unusedVariables false

/-- The reading's own bound on what a datum weighs. -/
def Light {H : Type} (P : Program) (t : TypeId) (d : DataW H) : Prop := ∀ m ∈ d.weights P t, m ≤ reachBytes
theorem light_all {H : Type} {P : Program} {e : TypeId} {d : DataW H} : ∀ {ds : List (DataW H)}, d ∈ ds → ∀ m ∈ d.weights P e, m ∈ DataW.weightsAll P e ds
  | x :: ds, h, m, hm => by
    simp only [DataW.weightsAll, List.mem_append]
    rcases List.mem_cons.1 h with rfl | h
    · exact .inl hm
    · exact .inr (light_all h m hm)
/-- What is read with so much fuel is a value of the kind d, of which B holds. -/
def OpensN (P : Program) (n : Nat) (t : TypeId) {α : Type} (d : Kd α) (B : α → Prop) : Prop :=
  ∀ (H : Type) (enc : TypeId × Value → H) (w : World) (cs : List Value) (y : DataW H × List MemPlace), DataW.trod enc P w 0 (fun _ => true) true n t cs = some y → Light P t y.1 → ∃ x, d.K w x cs ∧ B x
def OpensFs (P : Program) (n : Nat) (fs : List Field) (off : Nat) {α : Type} (d : Kd α) (B : α → Prop) : Prop :=
  ∀ (H : Type) (enc : TypeId × Value → H) (w : World) (cs : List Value) (ys : List (DataW H × List MemPlace)),
    (∀ (i : Nat) (f : Field), fs[i]? = some f → DataW.trod enc P w 0 (fun _ => true) true n f.type ((cs.drop f.offset).take (P.cellsOf f.type)) = ys[i]?) → ys.length = fs.length → (∀ (i : Nat) (f : Field) (y : DataW H × List MemPlace), fs[i]? = some f → ys[i]? = some y → Light P f.type y.1) → off + d.sz ≤ cs.length →
    ∃ x, d.K w x ((cs.drop off).take d.sz) ∧ B x

variable {P : Program} {n : Nat} {t : TypeId}
theorem opens_zero {α : Type} (d : Kd α) (B : α → Prop) : OpensN P 0 t d B := by
  intro H enc w cs y h _
  simp [DataW.trod] at h
theorem opens_int {k : IntKind} (ht : P.underlying t = some (.int k)) : OpensN P n t (Kd.int k) (fun x => (Lit.int k x).wf = true) := by
  intro H enc w cs y h _
  obtain ⟨x, rfl, _, hw⟩ := DataW.trod_int ht h
  exact ⟨x, rfl, hw⟩
theorem opens_bool (ht : P.underlying t = some .bool) : OpensN P n t Kd.bool (fun _ => True) := by
  intro H enc w cs y h _
  obtain ⟨b, rfl, _⟩ := DataW.trod_bool ht h
  exact ⟨b, rfl, trivial⟩
theorem opens_string (ht : P.underlying t = some .string) : OpensN P n t Kd.string (fun s => s.size ≤ 140737488351232) := by
  intro H enc w cs y h hw
  obtain ⟨s, rfl, rfl, hs⟩ := DataW.trod_string ht h
  refine ⟨s, rfl, ?_⟩
  have := hw s.data.toList.length (by simp [DataW.weights])
  rw [Array.length_toList] at this
  exact this
theorem opens_slice {e : TypeId} {α : Type} {d : Kd α} {B : α → Prop} (ht : P.underlying t = some (.slice e)) (hsz : P.cellsOf e = d.sz) (he : ∀ m, m < n → OpensN P m e d B) : OpensN P n t (Kd.slice e d) (fun xs => xs.length * P.bytesOf e ≤ 140737488351232 ∧ ∀ x ∈ xs, B x) := by
  intro H enc w cs y h hw
  rcases DataW.trod_slice ht h with ⟨rfl, _⟩ | ⟨a, len, cap, elems, rest, m, rfl, rfl, rfl, hb, hl, hm, hlen, hel, _, _⟩
  · exact ⟨[], ⟨none, 0, rfl, Nat.le_refl _, rfl, by simp, by simp⟩, by simp, by simp⟩
  · have key : ∀ i, i < len → ∃ x c, d.K w x c ∧ B x ∧ c.length = d.sz ∧ ∀ j u, c[j]? = some u → w.cell? (a.add (i * d.sz + j)) = some u := by
      intro i hi
      have h1 := hel i hi
      have hlt : i < elems.length := by omega
      rw [List.getElem?_eq_getElem hlt] at h1
      obtain ⟨c, hc, hy⟩ := Option.bind_eq_some_iff.1 h1
      obtain ⟨x, hK, hB⟩ := he m (Nat.lt_succ_self m) H enc w c _ hy (fun m' hm' => hw m' (by
        simp only [DataW.weights, ht]
        exact List.mem_cons_of_mem _ (List.mem_append_left _ (light_all (List.mem_map.2 ⟨_, List.getElem_mem hlt, rfl⟩) m' hm'))))
      obtain ⟨_, hcl, hcell⟩ := World.cells?_some hc
      refine ⟨x, c, hK, hB, by rw [hcl, hsz], fun j u hu => ?_⟩
      have hj : j < c.length := (List.getElem?_eq_some_iff.1 hu).1
      have := hcell j (by omega)
      rw [hu] at this
      rw [← this]
      congr 1
      unfold Addr.add
      rw [hsz]
      by_cases h0 : i * d.sz = 0 <;> by_cases h2 : j = 0 <;> simp [h0, h2, Nat.add_assoc]
      all_goals (try rename_i hh; try simp_all)
    have : ∀ L, L ≤ len → ∃ xs : List α, xs.length = L ∧ ∀ (i : Nat) (x : α), xs[i]? = some x → ∃ c, d.K w x c ∧ B x ∧ c.length = d.sz ∧ ∀ j u, c[j]? = some u → w.cell? (a.add (i * d.sz + j)) = some u := by
      intro L
      induction L with
      | zero => exact fun _ => ⟨[], rfl, fun i x hx => by simp at hx⟩
      | succ L ih =>
        intro hL
        obtain ⟨xs, hxl, hxs⟩ := ih (by omega)
        obtain ⟨x, hx⟩ := key L (by omega)
        refine ⟨xs ++ [x], by simp [hxl], fun i z hz => ?_⟩
        rcases Nat.lt_trichotomy i L with hi | hi | hi
        · rw [List.getElem?_append_left (by omega)] at hz
          exact hxs i z hz
        · subst hi
          rw [List.getElem?_append_right (by omega), hxl] at hz
          simp at hz
          subst hz
          exact hx
        · rw [List.getElem?_eq_none (by simp; omega)] at hz; cases hz
    obtain ⟨xs, hxl, hxs⟩ := this len (Nat.le_refl _)
    refine ⟨xs, ⟨some a, cap, by rw [hxl], by rw [hxl]; exact hl, rfl, by unfold maxLen at hm; omega, fun hp => ⟨a, rfl, fun j p hj => ?_⟩⟩, ?_, ?_⟩
    · obtain ⟨c, hK, _, hcl, hcell⟩ := hxs j p hj
      exact ⟨c, hcl, hK, hcell⟩
    · have := hw ((elems.length + rest.length) * P.bytesOf e) (by simp [DataW.weights, ht])
      rw [hxl, ← hlen]
      exact Nat.le_trans (Nat.mul_le_mul_right _ (Nat.le_add_right _ _)) this
    · intro x hx
      obtain ⟨i, hi, rfl⟩ := List.mem_iff_getElem.1 hx
      obtain ⟨c, _, hB, _⟩ := hxs i _ (List.getElem?_eq_getElem hi)
      exact hB
theorem opens_one {f : Field} {off : Nat} {α : Type} {d : Kd α} {B : α → Prop} (ho : f.offset = off) (hsz : P.cellsOf f.type = d.sz) (h1 : OpensN P n f.type d B) : OpensFs P n [f] off d B := by
  intro H enc w cs ys h hl hw hlen
  have h0 := h 0 f rfl
  cases ys with
  | nil => simp at hl
  | cons y ys =>
    rw [ho, hsz] at h0
    exact h1 H enc w _ y h0 (hw 0 f y rfl rfl)
theorem opens_cons {f : Field} {fs : List Field} {off : Nat} {α β : Type} {d : Kd α} {d2 : Kd β} {B : α → Prop} {B2 : β → Prop} (ho : f.offset = off) (hsz : P.cellsOf f.type = d.sz) (h1 : OpensN P n f.type d B)
    (h2 : OpensFs P n fs (off + d.sz) d2 B2) : OpensFs P n (f :: fs) off (Kd.pair d d2) (fun x => B x.1 ∧ B2 x.2) := by
  intro H enc w cs ys h hl hw hlen
  cases ys with
  | nil => simp at hl
  | cons y ys =>
    have h0 := h 0 f rfl
    rw [ho, hsz] at h0
    obtain ⟨x1, hK1, hB1⟩ := h1 H enc w _ y h0 (hw 0 f y rfl rfl)
    have hlen' : off + (d.sz + d2.sz) ≤ cs.length := hlen
    obtain ⟨x2, hK2, hB2⟩ := h2 H enc w cs ys (fun i g hg => h (i + 1) g hg) (by simpa using hl) (fun i g z hg hz => hw (i + 1) g z hg hz) (by omega)
    refine ⟨(x1, x2), ⟨_, _, ?_, hK1, hK2⟩, hB1, hB2⟩
    show (cs.drop off).take (d.sz + d2.sz) = (cs.drop off).take d.sz ++ (cs.drop (off + d.sz)).take d2.sz
    rw [List.take_add, List.drop_drop]
theorem opens_struct {fs : Array Field} {α : Type} {d : Kd α} {B : α → Prop} (ht : P.underlying t = some (.struct fs)) (hsz : P.cellsOf t = d.sz) (hf : ∀ m, m < n → OpensFs P m fs.toList 0 d B) : OpensN P n t d B := by
  intro H enc w cs y h hw
  obtain ⟨xs, m, rfl, rfl, hcl, hxl, hx⟩ := DataW.trod_struct ht h
  obtain ⟨x, hK, hB⟩ := hf m (Nat.lt_succ_self m) H enc w cs xs (fun i f hi => hx i f (by simpa using hi)) (by simpa using hxl) (fun i f z hi hz m' hm' => hw m' (by
    simp only [DataW.weights, ht]
    exact DataW.weights_mem_each (by rw [List.getElem?_map, hi]; rfl) (by rw [List.getElem?_map, hz]; rfl) m' hm')) (by omega)
  refine ⟨x, ?_, hB⟩
  rw [List.drop_zero, List.take_of_length_le (by omega)] at hK
  exact hK
theorem opens_iso {α β : Type} {d : Kd α} {B : α → Prop} {f : β → α} {g : α → β} (hg : ∀ a, f (g a) = a) (h : OpensN P n t d B) : OpensN P n t (Kd.iso d f) (fun x => B (f x)) := by
  intro H enc w cs y hy hw
  obtain ⟨x, hK, hB⟩ := h H enc w cs y hy hw
  exact ⟨g x, show d.K w (f (g x)) cs by rw [hg]; exact hK, show B (f (g x)) by rw [hg]; exact hB⟩
theorem opens_mono {α : Type} {d : Kd α} {B B' : α → Prop} (hb : ∀ x, B x → B' x) (h : OpensN P n t d B) : OpensN P n t d B' := by
  intro H enc w cs y hy hw
  obtain ⟨x, hK, hB⟩ := h H enc w cs y hy hw
  exact ⟨x, hK, hb x hB⟩
/-- A type nested in itself: what is read with fuel n is nested at most n deep. -/
theorem opens_fix {α : Type} {F : Kd α → Kd α} {sz : Nat} {E : List Nat} {hs : ∀ n, (Kd.upto F sz E n).sz = sz} {hE : ∀ n q, q ∈ (Kd.upto F sz E n).E → q ∈ E} (hm : Kd.Mono F) {B : α → Prop}
    (step : ∀ n D, D = Kd.upto F sz E n → (∀ m, m ≤ n → OpensN P m t D B) → OpensN P (n + 1) t (F D) B) : ∀ n, OpensN P n t (Kd.fix F sz E hs hE) B := by
  have key : ∀ n, ∀ m, m ≤ n → OpensN P m t (Kd.upto F sz E n) B := by
    intro n
    induction n with
    | zero =>
      intro m hmn
      have : m = 0 := by omega
      subst this
      exact opens_zero _ _
    | succ n ih =>
      intro m hmn
      by_cases h : m = n + 1
      · subst h; exact step n _ rfl ih
      · intro H enc w cs y hy hw
        obtain ⟨x, hK, hB⟩ := ih m (by omega) H enc w cs y hy hw
        exact ⟨x, Kd.upto_K_le hm hs (Nat.le_succ n) hK, hB⟩
  intro n H enc w cs y hy hw
  obtain ⟨x, hK, hB⟩ := key n n (Nat.le_refl n) H enc w cs y hy hw
  exact ⟨x, ⟨n, hK⟩, hB⟩
/-- An argument that is a struct by value. -/
theorem open_value {α : Type} {d : Kd α} {B : α → Prop} {H : Type} {enc : TypeId × Value → H} {w : World} {r : Reach} {base : Nat} {fs : Array Field} {v : Value} {y : DataW H} {p : List MemPlace} (ht : P.underlying t = some (.struct fs)) (hv : Value.okWide P w r base t v)
    (h : DataW.Trod enc P w 0 (fun _ => true) true t v y p) (hw : Light P t y) (ho : ∀ n, OpensN P n t d B) : ∃ x cs, v = .agg cs ∧ d.K w x cs.toList ∧ B x := by
  obtain ⟨cs, rfl, _⟩ := okWide_struct ht hv
  obtain ⟨fuel, hf⟩ := h
  obtain ⟨x, hK, hB⟩ := ho fuel H enc w _ _ hf hw
  exact ⟨x, cs, rfl, hK, hB⟩
/-- An argument that is a slice. -/
theorem open_list {α : Type} {d : Kd α} {B : α → Prop} {H : Type} {enc : TypeId × Value → H} {w : World} {r : Reach} {base : Nat} {e : TypeId} {v : Value} {y : DataW H} {p : List MemPlace} (ht : P.underlying t = some (.slice e)) (hsz : P.cellsOf e = d.sz) (hv : Value.okWide P w r base t v)
    (h : DataW.Trod enc P w 0 (fun _ => true) true t v y p) (hw : Light P t y) (ho : ∀ n, OpensN P n e d B) : ∃ (xs : List α) (A : Option Addr) (c : Nat), v = .slice A xs.length c ∧ d.C w A xs.length xs ∧ xs.length ≤ c ∧ xs.length * P.bytesOf e ≤ 140737488351232 ∧ ∀ x ∈ xs, B x := by
  obtain ⟨A, l, c, rfl⟩ := okWide_slice ht hv
  obtain ⟨fuel, hf⟩ := h
  have hf' : DataW.trod enc P w 0 (fun _ => true) true fuel t [.slice A l c] = some (y, p) := by simpa [Value.cells] using hf
  obtain ⟨xs, ⟨A', c', he, hl, hC⟩, hB⟩ := opens_slice (d := d) (B := B) ht hsz (fun m _ => ho m) H enc w _ _ hf' hw
  injection he with he
  injection he with e1 e2 e3
  subst e1; subst e2; subst e3
  exact ⟨xs, _, _, rfl, hC, hl, hB.1, hB.2⟩
end Go.Proofs.Ytbfomjbencbmlaa.Opens
