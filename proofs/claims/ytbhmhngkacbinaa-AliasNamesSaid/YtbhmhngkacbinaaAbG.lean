/- The interpreter's stores against the model's. Conditions: the table of types. -/
import Derived.Test.YtbhmhngkacbinaaAbF
import Derived.Deep.Upon
namespace Go.Ab
open Go.RowKit
set_option autoImplicit false
set_option linter.unusedSimpArgs false

theorem kd_pv {w : World} {O : Nat → Prop} {ek : EK} {v : PV} {u : Value} (h : PR w O v u) (hk : v.kd ek = true) : v.fits ek ∧ u.cells.size = ek.sz ∧ ∀ (j : Nat) (c : PV) (x : Value), v.cells[j]? = some c → u.cells[j]? = some x → isCell x ∧ PR w O c x := by
  have one : v.cells = [v] → u.cells = #[u] → v.isAgg = false → isCell u → ek.ag = false → ek.sz = 1 → (v.fits ek ∧ u.cells.size = ek.sz ∧ ∀ (j : Nat) (c : PV) (x : Value), v.cells[j]? = some c → u.cells[j]? = some x → isCell x ∧ PR w O c x) := by
    intro h1 h2 h3 h4 h5 h6
    refine ⟨⟨by rw [h1, h6]; rfl, by rw [h3, h5], h.wf⟩, by rw [h2, h6]; rfl, ?_⟩
    intro j c x hc hx
    rw [h1] at hc; rw [h2] at hx
    cases j with
    | zero => simp at hc hx; subst hc; subst hx; exact ⟨h4, h⟩
    | succ j => simp at hc
  cases h with
  | agg n cs us hn hu hs hc h' =>
    simp only [PV.kd, Bool.and_eq_true, beq_iff_eq] at hk
    refine ⟨⟨by simp only [PV.cells]; omega, by rw [hk.1]; rfl, ⟨hn, hs⟩⟩, by simp only [Value.cells]; omega, ?_⟩
    intro j c x hcj hx
    exact ⟨hc j x hx, h' j c x hcj hx⟩
  | undef u => simp [PV.kd] at hk
  | _ =>
    simp only [PV.kd, Bool.and_eq_true, Bool.not_eq_true', beq_iff_eq] at hk
    exact one rfl rfl rfl rfl hk.1 hk.2
theorem kd_v {w : World} {O : Nat → Prop} {ι : List Loc} {ek : EK} {v : V} {u : Value} (h : VR w O ι v u) (hk : v.kd ek = true) : v.fits ek ∧ u.cells.size = ek.sz ∧ ∀ (j : Nat) (c : V) (x : Value), v.cells[j]? = some c → u.cells[j]? = some x → isCell x ∧ VR w O ι c x := by
  have one : v.cells = [v] → u.cells = #[u] → v.isAgg = false → isCell u → v.wf → ek.ag = false → ek.sz = 1 → (v.fits ek ∧ u.cells.size = ek.sz ∧ ∀ (j : Nat) (c : V) (x : Value), v.cells[j]? = some c → u.cells[j]? = some x → isCell x ∧ VR w O ι c x) := by
    intro h1 h2 h3 h4 hw h5 h6
    refine ⟨⟨by rw [h1, h6]; rfl, by rw [h3, h5], hw⟩, by rw [h2, h6]; rfl, ?_⟩
    intro j c x hc hx
    rw [h1] at hc; rw [h2] at hx
    cases j with
    | zero => simp at hc hx; subst hc; subst hx; exact ⟨h4, h⟩
    | succ j => simp at hc
  cases h with
  | p x u h' =>
    obtain ⟨h1, h2, h3⟩ := kd_pv h' (by simpa [V.kd] using hk)
    refine ⟨⟨by simp [V.cells, h1.len], h1.ag, h1.wf⟩, h2, ?_⟩
    intro j c y hc hy
    simp only [V.cells, List.getElem?_map, Option.map_eq_some_iff] at hc
    obtain ⟨d, hd, rfl⟩ := hc
    exact ⟨(h3 j d y hd hy).1, .p _ _ (h3 j d y hd hy).2⟩
  | agg n cs us hn hu hs hc h' =>
    simp only [V.kd, Bool.and_eq_true, beq_iff_eq] at hk
    refine ⟨⟨by simp only [V.cells]; omega, by rw [hk.1]; rfl, ⟨hn, hs⟩⟩, by simp only [Value.cells]; omega, ?_⟩
    intro j c x hcj hx
    exact ⟨hc j x hx, h' j c x hcj hx⟩
  | tup => simp [V.kd] at hk
  | _ =>
    simp only [V.kd, Bool.and_eq_true, Bool.not_eq_true', beq_iff_eq] at hk
    exact one rfl rfl rfl rfl trivial hk.1 hk.2

theorem setCells_heap (b : Nat) : ∀ (vs : List Value) (o : Nat) (w : World), (w.setCells b o vs).heap.size = w.heap.size ∧ (w.setCells b o vs).tape = w.tape ∧ (w.setCells b o vs).os = w.os ∧ (w.setCells b o vs).output = w.output ∧
    (∀ c, c ≠ b → (w.setCells b o vs).heap[c]? = w.heap[c]?) ∧ ∀ cs e fz, w.heap[b]? = some (.cells cs e fz) → ∃ cs', (w.setCells b o vs).heap[b]? = some (.cells cs' e fz) ∧ cs'.size = cs.size
  | [], o, w => ⟨rfl, rfl, rfl, rfl, fun _ _ => rfl, fun cs e fz h => ⟨cs, h, rfl⟩⟩
  | v :: r, o, w => by
    obtain ⟨h1, h2, h3, h4, h5, h6⟩ := setCells_heap b r (o + 1) (w.setCell ⟨b, o, none⟩ v)
    refine ⟨h1.trans (by simp [World.setCell]), h2.trans rfl, h3.trans rfl, h4.trans rfl, fun c hc => (h5 c hc).trans (Below.heap_setCell w ⟨b, o, none⟩ v c hc), ?_⟩
    intro cs e fz h
    have : (w.setCell ⟨b, o, none⟩ v).heap[b]? = some (.cells (cs.setIfInBounds o v) e fz) := by simp [World.setCell, Array.getElem?_modify, h]
    obtain ⟨cs', g1, g2⟩ := h6 _ e fz this
    exact ⟨cs', g1, by simpa using g2⟩

theorem mul_lt_step {i i' sz j : Nat} (h : i' < i) (hj : j < sz) : i' * sz + j < i * sz := by
  have : (i' + 1) * sz ≤ i * sz := Nat.mul_le_mul_right sz h
  rw [Nat.add_mul] at this
  omega
/-- One element written. -/
theorem Lies.set {α : Type} {cells : α → List α} {fits : EK → α → Prop} {R R' : α → Value → Prop} {c c' : Nat → Option Value} {k : EK} {xs : List α} {o i : Nat} {y : α} (h : Lies cells fits R c k xs o)
    (hlen : ∀ x, fits k x → (cells x).length = k.sz) (hy : fits k y) (hc : ∀ off, (off < o + i * k.sz ∨ o + i * k.sz + k.sz ≤ off) → c' off = c off)
    (hr : ∀ (j : Nat) (d : α), (cells y)[j]? = some d → ∃ u, c' (o + i * k.sz + j) = some u ∧ isCell u ∧ R' d u) (hR : ∀ (j : Nat) (x : α) (q : Nat) (d : α) (u : Value), xs[j]? = some x → (cells x)[q]? = some d → R d u → R' d u) : Lies cells fits R' c' k (xs.set i y) o where
  fit j x hx := by
    rcases get_set hx with ⟨_, hx⟩ | ⟨_, rfl, _⟩
    · exact h.fit j x hx
    · exact hy
  rep j x q d hx hd := by
    rcases get_set hx with ⟨hj, hx⟩ | ⟨rfl, rfl, _⟩
    · obtain ⟨u, h1, h2, h3⟩ := h.rep j x q d hx hd
      have hq : q < k.sz := by rw [← hlen x (h.fit j x hx)]; exact (List.getElem?_eq_some_iff.1 hd).1
      refine ⟨u, (hc _ ?_).trans h1, h2, hR j x q d u hx hd h3⟩
      rcases Nat.lt_or_ge j i with hlt | hge
      · have := mul_lt_step hlt hq; omega
      · have : (i + 1) * k.sz ≤ j * k.sz := Nat.mul_le_mul_right _ (by omega)
        rw [Nat.add_mul] at this
        omega
    · exact hr q d hd

theorem splice_get {α : Type} {cs vs : List α} {f m : Nat} (hm : vs.length = m) (hf : f + m ≤ cs.length) {j : Nat} {d : α} (h : (cs.take f ++ vs ++ cs.drop (f + m))[j]? = some d) : (f ≤ j ∧ j < f + m ∧ vs[j - f]? = some d) ∨ ((j < f ∨ f + m ≤ j) ∧ cs[j]? = some d) := by
  rw [List.append_assoc] at h
  rcases Nat.lt_or_ge j f with h1 | h1
  · rw [List.getElem?_append_left (by simp; omega), List.getElem?_take, if_pos h1] at h
    exact .inr ⟨.inl h1, h⟩
  · rw [List.getElem?_append_right (by simp; omega)] at h
    have hlen : (cs.take f).length = f := by simp; omega
    rw [hlen] at h
    rcases Nat.lt_or_ge j (f + m) with h2 | h2
    · rw [List.getElem?_append_left (by omega)] at h
      exact .inl ⟨h1, h2, h⟩
    · rw [List.getElem?_append_right (by omega), List.getElem?_drop] at h
      refine .inr ⟨.inr h2, ?_⟩
      rwa [show f + m + (j - f - vs.length) = j from by omega] at h

/-- What a store makes of an element, cell by cell. -/
theorem stE_spec {k : EK} {ti : TI} {f : Nat} {x v y : PV} (hx : x.fits k) (hv : v.fits ti.ek) (h : stE k ti f x v = some y) : y.fits k ∧ f + ti.sz ≤ k.sz ∧ ∀ (j : Nat) (d : PV), y.cells[j]? = some d → (f ≤ j ∧ j < f + ti.sz ∧ v.cells[j - f]? = some d) ∨ ((j < f ∨ f + ti.sz ≤ j) ∧ x.cells[j]? = some d) := by
  have hvl : v.cells.length = ti.sz := hv.len
  unfold stE at h
  split at h
  · split at h
    · rename_i hc
      simp only [Bool.and_eq_true, beq_iff_eq] at hc
      obtain ⟨rfl, h1, h2⟩ := hc
      cases h
      refine ⟨⟨by rw [hvl, h1], by rw [hv.ag, h2]; rfl, hv.wf⟩, by omega, ?_⟩
      intro j d hd
      have := (List.getElem?_eq_some_iff.1 hd).1
      exact .inl ⟨Nat.zero_le _, by omega, by simpa using hd⟩
    · cases x with
      | agg n cs =>
        have hn : cs.length = n := hx.wf.1
        have hk : cs.length = k.sz := hx.len
        simp only at h
        cases ha : isAggD ti.d with
        | true =>
          simp only [ha, if_true] at h
          split at h
          · rename_i hle
            cases h
            refine ⟨⟨by simp [PV.cells]; simp [PV.cells] at hvl; omega, hx.ag, by simp; omega, ?_⟩, by omega, ?_⟩
            · intro i c hi
              rcases splice_get hvl (by omega) hi with ⟨_, _, h3⟩ | ⟨_, h3⟩
              · cases v with
                | agg m vs => exact hv.wf.2 _ c h3
                | _ => have := hv.ag; simp [PV.isAgg, TI.ek, ha] at this
              · exact hx.wf.2 i c h3
            · intro j d hd
              exact splice_get (cs := cs) hvl (by omega) hd
          · cases h
        | false =>
          simp only [ha, if_false, Bool.false_eq_true] at h
          split at h
          · rename_i hlt
            cases h
            have hva : v.isAgg = false := by have := hv.ag; simpa [TI.ek, ha] using this
            have h1 : ti.sz = 1 := by rw [← hvl, one_cell hva]; rfl
            refine ⟨⟨by simp [PV.cells]; omega, hx.ag, by simp; omega, ?_⟩, by omega, ?_⟩
            · intro i c hi
              rcases get_set hi with ⟨_, h3⟩ | ⟨_, rfl, _⟩
              · exact hx.wf.2 i c h3
              · exact hva
            · intro j d hd
              rcases get_set hd with ⟨h2, h3⟩ | ⟨rfl, rfl, _⟩
              · exact .inr ⟨by omega, h3⟩
              · exact .inl ⟨Nat.le_refl _, by omega, by rw [one_cell hva]; simp⟩
          · cases h
      | _ => simp at h
  · cases h
theorem one_cellV {x : V} (h : x.isAgg = false) : x.cells.length = 1 ∧ x.cells = [x] := by
  cases x with
  | p y => simp [V.cells, one_cell (show y.isAgg = false from h)]
  | agg => simp [V.isAgg] at h
  | tup => simp [V.isAgg] at h
  | _ => exact ⟨rfl, rfl⟩
theorem agg_cells_wf {v : V} (hv : v.wf) (ha : v.isAgg = true) : ∀ (i : Nat) (c : V), v.cells[i]? = some c → c.isAgg = false := by
  intro i c hi
  cases v with
  | p y =>
    cases y <;> simp [V.isAgg, PV.isAgg] at ha
    simp only [V.cells, PV.cells, List.getElem?_map, Option.map_eq_some_iff] at hi
    obtain ⟨d, hd, rfl⟩ := hi
    exact hv.2 i d hd
  | agg n cs => exact hv.2 i c hi
  | tup => exact hv.elim
  | _ => simp [V.isAgg] at ha
theorem stV_spec {k : EK} {ti : TI} {f : Nat} {x v y : V} (hx : x.fits k) (hv : v.fits ti.ek) (h : stV k ti f x v = some y) : y.fits k ∧ f + ti.sz ≤ k.sz ∧ ∀ (j : Nat) (d : V), y.cells[j]? = some d → (f ≤ j ∧ j < f + ti.sz ∧ v.cells[j - f]? = some d) ∨ ((j < f ∨ f + ti.sz ≤ j) ∧ x.cells[j]? = some d) := by
  have hvl : v.cells.length = ti.sz := hv.len
  have agg : ∀ (n : Nat) (cs : List V), x.cells = cs → cs.length = n → x.isAgg = true → (∀ (i : Nat) (c : V), cs[i]? = some c → c.isAgg = false) →
      (if isAggD ti.d then (if f + ti.sz ≤ n then some (V.agg n (cs.take f ++ v.cells ++ cs.drop (f + ti.sz))) else none) else if f < n then some (V.agg n (cs.set f v)) else none) = some y →
      (y.fits k ∧ f + ti.sz ≤ k.sz ∧ ∀ (j : Nat) (d : V), y.cells[j]? = some d → (f ≤ j ∧ j < f + ti.sz ∧ v.cells[j - f]? = some d) ∨ ((j < f ∨ f + ti.sz ≤ j) ∧ x.cells[j]? = some d)) := by
    intro n cs e hn hxa hsc h
    have hk : cs.length = k.sz := by rw [← e]; exact hx.len
    have hka : k.ag = true := by rw [← hx.ag]; exact hxa
    cases ha : isAggD ti.d with
    | true =>
      simp only [ha, if_true] at h
      split at h
      · rename_i hle
        cases h
        refine ⟨⟨by show (cs.take f ++ v.cells ++ cs.drop (f + ti.sz)).length = k.sz; simp only [List.length_append, List.length_take, List.length_drop, hvl]; omega, by rw [hka]; rfl, by simp only [List.length_append, List.length_take, List.length_drop, hvl]; omega, ?_⟩, by omega, ?_⟩
        · intro i c hi
          rcases splice_get hvl (by omega) hi with ⟨_, _, h3⟩ | ⟨_, h3⟩
          · exact agg_cells_wf hv.wf (by have := hv.ag; simpa [TI.ek, ha] using this) _ c h3
          · exact hsc i c h3
        · intro j d hd
          rw [e]
          exact splice_get hvl (by omega) hd
      · cases h
    | false =>
      simp only [ha, if_false, Bool.false_eq_true] at h
      split at h
      · rename_i hlt
        cases h
        have hva : v.isAgg = false := by have := hv.ag; simpa [TI.ek, ha] using this
        have h1 : ti.sz = 1 := by rw [← hvl, (one_cellV hva).1]
        refine ⟨⟨by simp [V.cells]; omega, by rw [hka]; rfl, by simp; omega, ?_⟩, by omega, ?_⟩
        · intro i c hi
          rcases get_set hi with ⟨_, h3⟩ | ⟨_, rfl, _⟩
          · exact hsc i c h3
          · exact hva
        · intro j d hd
          rw [e]
          rcases get_set hd with ⟨h2, h3⟩ | ⟨rfl, rfl, _⟩
          · exact .inr ⟨by omega, h3⟩
          · exact .inl ⟨Nat.le_refl _, by omega, by rw [(one_cellV hva).2]; simp⟩
      · cases h
  unfold stV at h
  split at h
  · split at h
    · rename_i hc
      simp only [Bool.and_eq_true, beq_iff_eq] at hc
      obtain ⟨rfl, h1, h2⟩ := hc
      cases h
      refine ⟨⟨by rw [hvl, h1], by rw [hv.ag, h2]; rfl, hv.wf⟩, by omega, ?_⟩
      intro j d hd
      have := (List.getElem?_eq_some_iff.1 hd).1
      exact .inl ⟨Nat.zero_le _, by omega, by simpa using hd⟩
    · split at h
      · exact agg _ _ rfl hx.wf.1 rfl hx.wf.2 h
      · rename_i n cs
        refine agg n (cs.map V.p) rfl (by simp; exact hx.wf.1) rfl ?_ h
        intro i c hi
        simp only [List.getElem?_map, Option.map_eq_some_iff] at hi
        obtain ⟨d, hd, rfl⟩ := hi
        exact hx.wf.2 i d hd
      · cases h
  · cases h
end Go.Ab
