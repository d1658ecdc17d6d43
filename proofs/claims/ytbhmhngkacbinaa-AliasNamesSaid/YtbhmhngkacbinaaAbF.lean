/- The interpreter's loads and stores against the model's. Conditions: the table of types. -/
import Derived.Test.YtbhmhngkacbinaaAbE
namespace Go.Ab
open Go.RowKit
set_option autoImplicit false
set_option linter.unusedSimpArgs false

structure TyOk (P : Program) (ty : Ty) : Prop where
  ok : ∀ (t : Nat) (ti : TI), ty t = some ti → P.underlying t = some ti.d ∧ ∃ i, P.info? t = some i ∧ i.size = ti.sz ∧ i.bytes = ti.bytes ∧ ∃ z, i.zero = some z ∧ ∀ w O, PR w O ti.z z
section
variable {P : Program} {ty : Ty} (hT : TyOk P ty) {t : Nat} {ti : TI} (ht : ty t = some ti) {w : World}
include hT ht
theorem run_und : (underlying t).run P w = .ok ti.d w := run_underlying (hT.ok t ti ht).1 w
theorem run_agg : (isAgg t).run P w = .ok (isAggD ti.d) w := by
  unfold isAgg
  rw [Sem.run_bind, run_und hT ht]
  cases ti.d <;> rfl
theorem run_sz : (sizeOf t).run P w = .ok ti.sz w := by
  obtain ⟨_, i, h1, h2, _⟩ := hT.ok t ti ht
  simp [sizeOf, typeInfo, h1, h2]
theorem run_info : ∃ i, (typeInfo t).run P w = .ok i w ∧ i.size = ti.sz ∧ i.bytes = ti.bytes := by
  obtain ⟨_, i, h1, h2, h3, _⟩ := hT.ok t ti ht
  exact ⟨i, by simp [typeInfo, h1], h2, h3⟩
theorem run_zero (O : Nat → Prop) : ∃ z, (zeroValue t).run P w = .ok z w ∧ PR w O ti.z z := by
  obtain ⟨_, i, h1, _, _, z, hz, hR⟩ := hT.ok t ti ht
  exact ⟨z, by simp [zeroValue, typeInfo, h1, hz], hR w O⟩
end

theorem range_cells {α : Type} {R : α → Value → Prop} {cell : Nat → Option Value} : ∀ (cs : List α) (o : Nat), (∀ (j : Nat) (c : α), cs[j]? = some c → ∃ u, cell (o + j) = some u ∧ isCell u ∧ R c u) →
    ∃ us : List Value, us.length = cs.length ∧ (∀ (j : Nat) (v : Value), us[j]? = some v → cell (o + j) = some v ∧ isCell v) ∧ ∀ (j : Nat) (c : α) (v : Value), cs[j]? = some c → us[j]? = some v → R c v
  | [], o, _ => ⟨[], rfl, by simp, by simp⟩
  | c :: cs, o, h => by
    obtain ⟨u, h1, h2, h3⟩ := h 0 c rfl
    obtain ⟨us, g1, g2, g3⟩ := range_cells cs (o + 1) (fun j d hd => by
      have := h (j + 1) d (by simpa using hd)
      rwa [show o + (j + 1) = o + 1 + j from by omega] at this)
    refine ⟨u :: us, by simp [g1], ?_, ?_⟩
    · intro j v hv
      cases j with
      | zero => simp at hv; subst hv; exact ⟨h1, h2⟩
      | succ j => have := g2 j v (by simpa using hv); rwa [show o + 1 + j = o + (j + 1) from by omega] at this
    · intro j d v hd hv
      cases j with
      | zero => simp at hd hv; subst hd; subst hv; exact h3
      | succ j => exact g3 j d v (by simpa using hd) (by simpa using hv)

theorem agg_fits {k : EK} {x : PV} (h : x.fits k) (ha : k.ag = true) : ∃ n cs, x = .agg n cs ∧ n = k.sz ∧ cs.length = k.sz ∧ ∀ (i : Nat) (c : PV), cs[i]? = some c → c.isAgg = false := by
  have hx := h.ag
  rw [ha] at hx
  cases x <;> simp [PV.isAgg] at hx
  rename_i n cs
  exact ⟨n, cs, rfl, by have := h.len; have := h.wf.1; simp [PV.cells] at *; omega, by have := h.len; simpa [PV.cells] using this, h.wf.2⟩
theorem one_cell {x : PV} (h : x.isAgg = false) : x.cells = [x] := by cases x <;> simp_all [PV.isAgg, PV.cells]

section
variable {P : Program} {ty : Ty} (hT : TyOk P ty) {t : Nat} {ti : TI} (ht : ty t = some ti) {w : World} {O : Nat → Prop}
include hT ht
theorem run_loadAgg {b off : Nat} (ha : isAggD ti.d = true) {us : List Value} (hl : us.length = ti.sz) (hc : ∀ (j : Nat) (v : Value), us[j]? = some v → w.cell? ⟨b, off + j, none⟩ = some v) :
    (loadVar t ⟨b, off, none⟩).run P w = .ok (.agg us.toArray) w := by
  obtain ⟨h0, i, h1, h2, _⟩ := hT.ok t ti ht
  exact run_loadVar_mid w b off t us ti.d hc h0 (by cases hd : ti.d <;> simp_all [isAggD]) (by simp [h1, h2, hl])
theorem run_loadOne {b off : Nat} (ha : isAggD ti.d = false) {u : Value} (hc : w.cell? ⟨b, off, none⟩ = some u) : (loadVar t ⟨b, off, none⟩).run P w = .ok u w := by
  unfold loadVar
  rw [Sem.run_bind, run_agg hT ht, ha]
  simp [hc]
theorem ld_run {b base : Nat} {k : EK} {x : PV} {f : Nat} {y : PV} (hf : x.fits k) (hr : ∀ (j : Nat) (c : PV), x.cells[j]? = some c → ∃ u, w.cell? ⟨b, base + j, none⟩ = some u ∧ isCell u ∧ PR w O c u) (h : ldE k ti f x = some y) :
    ∃ u, (loadVar t ⟨b, base + f, none⟩).run P w = .ok u w ∧ PR w O y u := by
  unfold ldE at h
  cases ha : isAggD ti.d with
  | true =>
    simp only [ha, if_true] at h
    split at h
    · rename_i hc
      simp only [Bool.and_eq_true, beq_iff_eq] at hc
      obtain ⟨rfl, hsz, hk⟩ := hc
      cases h
      obtain ⟨n, cs, rfl, h1, h2, h3⟩ := agg_fits hf hk
      obtain ⟨us, g1, g2, g3⟩ := range_cells (R := PR w O) (cell := fun off => w.cell? ⟨b, off, none⟩) cs base hr
      refine ⟨.agg us.toArray, run_loadAgg hT ht ha (by omega) (fun j v hv => by have := (g2 j v hv).1; simpa using this), ?_⟩
      exact .agg n cs us.toArray (by omega) (by simp; omega) h3 (fun i u hu => (g2 i u (by simpa using hu)).2) (fun i c u hc hu => g3 i c u hc (by simpa using hu))
    · cases x with
      | agg n cs =>
        simp only at h
        split at h
        · rename_i hle
          cases h
          have hn : cs.length = n := hf.wf.1
          obtain ⟨us, g1, g2, g3⟩ := range_cells (R := PR w O) (cell := fun off => w.cell? ⟨b, off, none⟩) ((cs.drop f).take ti.sz) (base + f) (fun j c hc => by
            rw [List.getElem?_take] at hc
            split at hc
            · rw [List.getElem?_drop] at hc
              have := hr (f + j) c hc
              rwa [show base + (f + j) = base + f + j from by omega] at this
            · cases hc)
          have hlen : ((cs.drop f).take ti.sz).length = ti.sz := by simp; omega
          refine ⟨.agg us.toArray, run_loadAgg hT ht ha (by omega) (fun j v hv => (g2 j v hv).1), ?_⟩
          refine .agg ti.sz _ us.toArray hlen (by simp; omega) ?_ (fun i u hu => (g2 i u (by simpa using hu)).2) (fun i c u hc hu => g3 i c u hc (by simpa using hu))
          intro i c hc
          rw [List.getElem?_take] at hc
          split at hc
          · rw [List.getElem?_drop] at hc; exact hf.wf.2 _ c hc
          · cases hc
        · cases h
      | _ => simp at h
  | false =>
    simp only [ha, if_false, Bool.false_eq_true] at h
    cases hk : k.ag with
    | true =>
      simp only [hk, if_true] at h
      cases x with
      | agg n cs =>
        simp only at h
        obtain ⟨u, h1, _, h2⟩ := hr f y h
        exact ⟨u, run_loadOne hT ht ha h1, h2⟩
      | _ => simp at h
    | false =>
      simp only [hk, if_false, Bool.false_eq_true] at h
      split at h
      · rename_i hf0
        simp at hf0
        subst hf0
        cases h
        have hx := hf.ag
        rw [hk] at hx
        obtain ⟨u, h1, _, h2⟩ := hr 0 x (by rw [one_cell hx]; rfl)
        exact ⟨u, run_loadOne hT ht ha h1, h2⟩
      · cases h
theorem ldV_run {ι : List Loc} {b base : Nat} {k : EK} {x : V} {f : Nat} {y : V} (hf : x.fits k) (hr : ∀ (j : Nat) (c : V), x.cells[j]? = some c → ∃ u, w.cell? ⟨b, base + j, none⟩ = some u ∧ isCell u ∧ VR w O ι c u) (h : ldV k ti f x = some y) :
    ∃ u, (loadVar t ⟨b, base + f, none⟩).run P w = .ok u w ∧ VR w O ι y u := by
  have aggcase : ∀ (n : Nat) (cs : List V), x = .agg n cs → (∃ u, (loadVar t ⟨b, base + f, none⟩).run P w = .ok u w ∧ VR w O ι y u) := by
    rintro n cs rfl
    have hn : cs.length = n := hf.wf.1
    simp only [ldV] at h
    cases ha : isAggD ti.d with
    | true =>
      simp only [ha, if_true] at h
      split at h
      · rename_i hc
        simp only [Bool.and_eq_true, beq_iff_eq] at hc
        obtain ⟨rfl, hsz, hk⟩ := hc
        cases h
        obtain ⟨us, g1, g2, g3⟩ := range_cells (R := VR w O ι) (cell := fun off => w.cell? ⟨b, off, none⟩) cs base hr
        have hl := hf.len
        simp only [V.cells] at hl
        refine ⟨.agg us.toArray, run_loadAgg hT ht ha (by omega) (fun j v hv => by have := (g2 j v hv).1; simpa using this), ?_⟩
        exact .agg n cs us.toArray (by omega) (by simp; omega) hf.wf.2 (fun i u hu => (g2 i u (by simpa using hu)).2) (fun i c u hc hu => g3 i c u hc (by simpa using hu))
      · split at h
        · rename_i hle
          cases h
          obtain ⟨us, g1, g2, g3⟩ := range_cells (R := VR w O ι) (cell := fun off => w.cell? ⟨b, off, none⟩) ((cs.drop f).take ti.sz) (base + f) (fun j c hc => by
            rw [List.getElem?_take] at hc
            split at hc
            · rw [List.getElem?_drop] at hc
              have := hr (f + j) c hc
              rwa [show base + (f + j) = base + f + j from by omega] at this
            · cases hc)
          have hlen : ((cs.drop f).take ti.sz).length = ti.sz := by simp; omega
          refine ⟨.agg us.toArray, run_loadAgg hT ht ha (by omega) (fun j v hv => (g2 j v hv).1), ?_⟩
          refine .agg ti.sz _ us.toArray hlen (by simp; omega) ?_ (fun i u hu => (g2 i u (by simpa using hu)).2) (fun i c u hc hu => g3 i c u hc (by simpa using hu))
          intro i c hc
          rw [List.getElem?_take] at hc
          split at hc
          · rw [List.getElem?_drop] at hc; exact hf.wf.2 _ c hc
          · cases hc
        · cases h
    | false =>
      simp only [ha, if_false, Bool.false_eq_true] at h
      cases hk : k.ag with
      | true =>
        simp only [hk, if_true] at h
        obtain ⟨u, h1, _, h2⟩ := hr f y h
        exact ⟨u, run_loadOne hT ht ha h1, h2⟩
      | false => have := hf.ag; simp [V.isAgg, hk] at this
  have onecase : x.cells = [x] → x.isAgg = false → ldV k ti f x = (if isAggD ti.d then (if f == 0 && (ti.sz == k.sz && k.ag) then some x else none) else if k.ag then none else if f == 0 then some x else none) → (∃ u, (loadVar t ⟨b, base + f, none⟩).run P w = .ok u w ∧ VR w O ι y u) := by
    intro hx hx2 e
    have hk : k.ag = false := by rw [← hf.ag]; exact hx2
    rw [e] at h
    cases ha : isAggD ti.d with
    | true => simp [ha, hk] at h
    | false =>
      simp only [ha, hk, if_false, Bool.false_eq_true] at h
      split at h
      · rename_i hf0
        simp at hf0
        subst hf0
        cases h
        obtain ⟨u, h1, _, h2⟩ := hr 0 x (by rw [hx]; rfl)
        exact ⟨u, run_loadOne hT ht ha h1, h2⟩
      · cases h
  cases x with
  | p y' =>
    simp only [ldV, Option.map_eq_some_iff] at h
    obtain ⟨z, hz, rfl⟩ := h
    have hfp : y'.fits k := ⟨by simpa [V.cells] using hf.len, hf.ag, hf.wf⟩
    obtain ⟨u, h1, h2⟩ := ld_run hT ht (O := O) hfp (fun j c hc => by
      obtain ⟨u, g1, g2, g3⟩ := hr j (.p c) (by simp [V.cells, hc])
      cases g3 with | p _ _ g3 => exact ⟨u, g1, g2, g3⟩) hz
    exact ⟨u, h1, .p _ _ h2⟩
  | agg n cs => exact aggcase n cs rfl
  | tup vs => have := hf.wf; exact this.elim
  | lp id i f' => exact onecase rfl rfl (by simp [ldV])
  | ls id => exact onecase rfl rfl (by simp [ldV])
  | lsub id i f' => exact onecase rfl rfl (by simp [ldV])
  | fn f' cs => exact onecase rfl rfl (by simp [ldV])
  | lm id => exact onecase rfl rfl (by simp [ldV])
theorem aload_sound {X : Nat → Prop} {ι : List Loc} {H : Heap} (hH : HR w X ι H) {a : V} {ua : Value} (ha : VR w (OX X ι H) ι a ua) {v : V} (h : aload H ti a = some v) :
    ∃ u, (Instr.loadAt t ua).run P w = .ok u w ∧ VR w (OX X ι H) ι v u := by
  have go : ∀ (A : Addr), (Instr.loadAt t (.pointer (some A))).run P w = (loadVar t A).run P w := fun A => by simp [Instr.loadAt, Instr.sureAddr]
  cases a with
  | p x =>
    cases x with
    | pp k xs i f =>
      simp only [aload] at h
      cases ha with
      | p _ _ ha =>
        cases ha with
        | pp _ _ _ _ b o hi hf hb hm hr =>
          cases hx : xs[i]? with
          | none => simp [hx] at h
          | some x =>
            simp only [hx, Option.map_eq_some_iff] at h
            obtain ⟨z, hz, rfl⟩ := h
            obtain ⟨u, h1, h2⟩ := ld_run hT ht (O := OX X ι H) (base := o + i * k.sz) (b := b) (hf i x hx) (fun j c hc => by
              obtain ⟨u, g1, g2⟩ := hm i x j c hx hc
              have := hr i x j c hx hc
              rw [g1] at this
              exact ⟨u, g1, g2, this⟩) hz
            exact ⟨u, by rw [go]; exact h1, .p _ _ h2⟩
    | _ => simp [aload] at h
  | lp id i f =>
    simp only [aload] at h
    cases ha with
    | lp _ _ _ l b o hl hp =>
      cases hB : H[id]? with
      | none => simp [hB] at h
      | some B =>
        have hbr := hH.blk id l B hl hB
        rw [hB] at h
        cases B with
        | pu k xs =>
          obtain ⟨h1, h2, h3⟩ := hbr
          simp only [hp] at h3
          cases hx : xs[i]? with
          | none => simp [hx] at h
          | some x =>
            simp only [hx, Option.map_eq_some_iff] at h
            obtain ⟨z, hz, rfl⟩ := h
            obtain ⟨u, g1, g2⟩ := ld_run hT ht (O := OX X ι H) (base := o + i * k.sz) (b := b) (h3.2.2.fit i x hx) (fun j c hc => h3.2.2.rep i x j c hx hc) hz
            exact ⟨u, by rw [go, h1]; exact g1, .p _ _ g2⟩
        | fz k xs =>
          obtain ⟨h1, h2, h3⟩ := hbr
          simp only [hp] at h3
          cases hx : xs[i]? with
          | none => simp [hx] at h
          | some x =>
            simp only [hx, Option.map_eq_some_iff] at h
            obtain ⟨z, hz, rfl⟩ := h
            obtain ⟨u, g1, g2⟩ := ld_run hT ht (O := OX X ι H) (base := o + i * k.sz) (b := b) (h3.2.2.fit i x hx) (fun j c hc => h3.2.2.rep i x j c hx hc) hz
            exact ⟨u, by rw [go, h1]; exact g1, .p _ _ g2⟩
        | mi k xs =>
          obtain ⟨h1, h2, h3⟩ := hbr
          simp only [hp] at h3
          cases hx : xs[i]? with
          | none => simp [hx] at h
          | some x =>
            simp only [hx] at h
            obtain ⟨u, g1, g2⟩ := ldV_run hT ht (O := OX X ι H) (base := o + i * k.sz) (b := b) (h3.2.2.fit i x hx) (fun j c hc => h3.2.2.rep i x j c hx hc) h
            exact ⟨u, by rw [go, h1]; exact g1, g2⟩
        | _ => simp at h
  | _ => simp [aload] at h
end
end Go.Ab
