/- The interpreter's structs, bytes and maps against the model's. Conditions: the table of types. -/
import Derived.Test.YtbhmhngkacbinaaAbN
namespace Go.Ab
open Go.RowKit
set_option autoImplicit false
set_option linter.unusedSimpArgs false

/-- The cells of a struct, as they are filled. -/
structure CR (w : World) (O : Nat → Prop) (ι : List Loc) (n : Nat) (cs : List V) (us : Array Value) : Prop where
  len : cs.length = n
  size : us.size = n
  sc : ∀ (i : Nat) (c : V), cs[i]? = some c → c.isAgg = false
  rep : ∀ (i : Nat) (c : V) (u : Value), cs[i]? = some c → us[i]? = some u → isCell u ∧ VR w O ι c u
section
variable {w : World} {O : Nat → Prop} {ι : List Loc}
theorem CR.agg {n : Nat} {cs : List V} {us : Array Value} (h : CR w O ι n cs us) : VR w O ι (.agg n cs) (.agg us) :=
  .agg n cs us h.len h.size h.sc (fun i u hu => (h.rep i _ u (List.getElem?_eq_getElem (by have := (Array.getElem?_eq_some_iff.1 hu).1; have := h.len; have := h.size; omega)) hu).1) (fun i c u hc hu => (h.rep i c u hc hu).2)
theorem CR.aggP {n : Nat} {cs : List PV} {us : Array Value} (h : CR w O ι n (cs.map V.p) us) : VR w O ι (.p (.agg n cs)) (.agg us) := by
  have hlen : cs.length = n := by have := h.len; simpa using this
  refine .p _ _ (.agg n cs us hlen h.size (fun i c hc => ?_) (fun i u hu => ?_) (fun i c u hc hu => ?_))
  · exact h.sc i (.p c) (by simp [hc])
  · have hi : i < cs.length := by have := (Array.getElem?_eq_some_iff.1 hu).1; have := h.size; omega
    exact (h.rep i (.p cs[i]) u (by simp [List.getElem?_eq_getElem hi]) hu).1
  · have := (h.rep i (.p c) u (by simp [hc]) hu).2
    cases this with | p _ _ this => exact this
theorem CR.fill {n off : Nat} {cs : List V} {us r : Array Value} {tf : TI} {v : V} {u : Value} (h : CR w O ι n cs us) (hv : VR w O ι v u) (hk : v.kd tf.ek = true) (hn : off + tf.sz ≤ n) (hs : r.size = us.size)
    (hr : ∀ k, r[k]? = if off ≤ k ∧ k < off + tf.sz then u.cells[k - off]? else us[k]?) : CR w O ι n (if isAggD tf.d then cs.take off ++ v.cells ++ cs.drop (off + tf.sz) else cs.set off v) r := by
  obtain ⟨g1, g2, g3⟩ := kd_v hv hk
  have hl := h.len
  have hvl : v.cells.length = tf.sz := g1.len
  cases ha : isAggD tf.d with
  | true =>
    simp only [if_true]
    refine ⟨by simp only [List.length_append, List.length_take, List.length_drop, hvl]; omega, hs.trans h.size, fun i c hc => ?_, fun i c x hc hx => ?_⟩
    · rcases splice_get hvl (by omega) hc with ⟨_, _, h3⟩ | ⟨_, h3⟩
      · exact agg_cells_wf g1.wf (by rw [g1.ag]; exact ha) _ c h3
      · exact h.sc i c h3
    · rw [hr] at hx
      rcases splice_get hvl (by omega) hc with ⟨h1, h2, h3⟩ | ⟨h1, h3⟩
      · rw [if_pos ⟨h1, h2⟩] at hx; exact g3 _ c x h3 hx
      · rw [if_neg (by omega)] at hx; exact h.rep i c x h3 hx
  | false =>
    simp only [Bool.false_eq_true, if_false]
    have hva : v.isAgg = false := by rw [g1.ag]; exact ha
    have h1 : tf.sz = 1 := by rw [← hvl, (one_cellV hva).1]
    refine ⟨by simp [hl], hs.trans h.size, fun i c hc => ?_, fun i c x hc hx => ?_⟩
    · rcases get_set hc with ⟨_, h3⟩ | ⟨_, rfl, _⟩
      · exact h.sc i c h3
      · exact hva
    · rw [hr] at hx
      rcases get_set hc with ⟨h2, h3⟩ | ⟨rfl, rfl, _⟩
      · rw [if_neg (by omega)] at hx; exact h.rep i c x h3 hx
      · rw [if_pos (by omega)] at hx
        exact g3 0 c x (by rw [(one_cellV hva).2]; rfl) (by simpa using hx)
end
theorem fillP_V {E : Env} {fs : Array Field} {n : Nat} : ∀ (ps : List (Nat × V)) (cs l : List PV), fillP E fs n cs ps = some l → fillV E fs n (cs.map V.p) ps = some (l.map V.p)
  | [], cs, l, h => by simp [fillP] at h; subst h; rfl
  | (i, v) :: ps, cs, l, h => by
    simp only [fillP] at h
    split at h
    · rename_i off t x hf
      split at h
      · rename_i hc
        have ih := fillP_V ps _ l h
        simp only [fillV, hf]
        rw [if_pos (by simpa [V.kd] using hc)]
        rw [← ih]
        congr 1
        cases ha : isAggD t.d <;> simp [spliceP, V.cells, List.map_take, List.map_drop]
      · cases h
    · cases h
section
variable {P : Program} {E : Env} (hT : TyOk P E.ty) {w : World} {O : Nat → Prop} {ι : List Loc}
include hT
theorem fillV_sound {fs : Array Field} {n : Nat} {places : Array (Nat × Nat)} (hpl : ∀ (i : Nat) (f : Field) (tf : TI), fs[i]? = some f → E.ty f.type = some tf → places[i]? = some (f.offset, tf.sz)) : ∀ (ps : List (Nat × V)) (us : List (Nat × Value)) (cs l : List V) (cells : Array Value), fillV E fs n cs ps = some l → CR w O ι n cs cells →
    ps.length = us.length → (∀ (j : Nat) (p : Nat × V) (u : Nat × Value), ps[j]? = some p → us[j]? = some u → p.1 = u.1 ∧ VR w O ι p.2 u.2) → ∃ r, Instr.fill (places[·]?) cells us = some r ∧ CR w O ι n l r
  | [], us, cs, l, cells, h, hc, hlen, _ => by
    have _u0 := hT
    simp [fillV] at h; subst h
    obtain rfl : us = [] := by cases us <;> simp_all
    exact ⟨cells, rfl, hc⟩
  | (i, v) :: ps, us, cs, l, cells, h, hc, hlen, hps => by
    simp only [fillV] at h
    split at h
    · rename_i off tf hf
      unfold fieldAt at hf
      cases hfi : fs[i]? with
      | none => simp [hfi] at hf
      | some f =>
        cases htf : E.ty f.type with
        | none => simp [hfi, htf] at hf
        | some tf' =>
          simp [hfi, htf] at hf
          obtain ⟨rfl, rfl⟩ := hf
          split at h
          · rename_i hk
            simp only [Bool.and_eq_true, decide_eq_true_eq] at hk
            cases us with
            | nil => simp at hlen
            | cons q us =>
              obtain ⟨i', u⟩ := q
              obtain ⟨e, hv⟩ := hps 0 (i, v) (i', u) rfl rfl
              simp only at e hv
              subst e
              obtain ⟨g1, g2, g3⟩ := kd_v hv hk.1
              obtain ⟨r, r1, r2, r3⟩ := fill_step (place := (places[·]?)) (rest := us) (cells := cells) (i := i) (v := u) (hpl i f _ hfi htf) g2 (by rw [hc.size]; exact hk.2)
              obtain ⟨r', q1, q2⟩ := fillV_sound hpl ps us _ l r h (hc.fill hv hk.1 hk.2 r2 r3) (by simpa using hlen) (fun j p u hp hu => hps (j + 1) p u (by simpa using hp) (by simpa using hu))
              exact ⟨r', r1.trans q1, q2⟩
          · cases h
    · cases h
theorem places_run : ∀ (fs : List Field), (fs.all fun f => (E.ty f.type).isSome) = true → ∃ pl : List (Nat × Nat), (fs.mapM (m := Sem) fun f => do pure (f.offset, ← sizeOf f.type)).run P w = .ok pl w ∧ ∀ (i : Nat) (f : Field) (tf : TI), fs[i]? = some f → E.ty f.type = some tf → pl[i]? = some (f.offset, tf.sz)
  | [], _ => ⟨[], rfl, by simp⟩
  | f :: fs, h => by
    simp only [List.all_cons, Bool.and_eq_true] at h
    obtain ⟨tf, htf⟩ := Option.isSome_iff_exists.1 h.1
    obtain ⟨pl, h1, h2⟩ := places_run fs h.2
    refine ⟨(f.offset, tf.sz) :: pl, ?_, ?_⟩
    · rw [List.mapM_cons, Sem.run_bind, Sem.run_bind, run_sz hT htf]
      simp only [Result.andThen_ok, Sem.run_pure, Sem.run_bind, h1]
    · intro i g tg hi hg
      cases i with
      | zero => simp at hi; subst hi; rw [htf] at hg; cases hg; rfl
      | succ i => exact h2 i g tg (by simpa using hi) hg
variable {t : Nat} {ti : TI} (ht : E.ty t = some ti)
include ht
theorem abuild_sound {ps : List (Nat × V)} {us : Array (Nat × Value)} {v : V} (hlen : ps.length = us.size) (hps : ∀ (j : Nat) (p : Nat × V) (u : Nat × Value), ps[j]? = some p → us[j]? = some u → p.1 = u.1 ∧ VR w O ι p.2 u.2) (h : abuild E ti ps = some v) :
    ∃ q, (Instr.build t us).run P w = .ok q w ∧ VR w O ι v q := by
  unfold abuild at h
  split at h
  · rename_i fs n cs hd hz
    split at h
    · rename_i hall
      obtain ⟨z, hz1, hz2⟩ := run_zero hT ht (w := w) O
      rw [hz] at hz2
      cases hz2 with
      | agg _ _ zs hn hu hs hc hrep =>
        have hcr : CR w O ι n (cs.map V.p) zs := ⟨by simp [hn], hu, fun i c hi => by
            simp only [List.getElem?_map, Option.map_eq_some_iff] at hi
            obtain ⟨d, hd, rfl⟩ := hi
            exact hs i d hd, fun i c u hi hui => by
            simp only [List.getElem?_map, Option.map_eq_some_iff] at hi
            obtain ⟨d, hd, rfl⟩ := hi
            exact ⟨hc i u hui, .p _ _ (hrep i d u hd hui)⟩⟩
        obtain ⟨pl, p1, p2⟩ := places_run hT (w := w) fs.toList hall
        have p3 : (fs.mapM (m := Sem) fun f => do pure (f.offset, ← sizeOf f.type)).run P w = .ok pl.toArray w := by
          rw [Array.mapM_eq_mapM_toList, Sem.run_map, p1]; rfl
        have key : ∀ l, fillV E fs n (cs.map V.p) ps = some l → ∃ r, (Instr.build t us).run P w = .ok (.agg r) w ∧ CR w O ι n l r := by
          intro l hl
          obtain ⟨r, r1, r2⟩ := fillV_sound hT (w := w) (O := O) (ι := ι) (places := pl.toArray) (fun i f tf hi hf => by simpa using p2 i f tf (by simpa using hi) hf) ps us.toList _ l zs hl hcr (by simpa using hlen) (fun j p u hp hu => hps j p u hp (by simpa using hu))
          refine ⟨r, ?_, r2⟩
          simp only [Instr.build, Sem.run_bind, hz1, run_und hT ht, Result.andThen_ok, hd, Value.cells, p3, Sem.run_pure]
          erw [r1]
          rfl
        split at h
        · simp only [Option.map_eq_some_iff] at h
          obtain ⟨l, hl, rfl⟩ := h
          obtain ⟨r, r1, r2⟩ := key _ (fillP_V ps cs l hl)
          exact ⟨_, r1, r2.aggP⟩
        · simp only [Option.map_eq_some_iff] at h
          obtain ⟨l, hl, rfl⟩ := h
          obtain ⟨r, r1, r2⟩ := key _ hl
          exact ⟨_, r1, r2.agg⟩
    · cases h
  · cases h
end
end Go.Ab
