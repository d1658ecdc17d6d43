/- The interpreter's slicing and bytes against the model's. Conditions: the table of types. -/
import Derived.Test.YtbhmhngkacbinaaAbK
namespace Go.Ab
open Go.RowKit
set_option autoImplicit false
set_option linter.unusedSimpArgs false

def OptR (R : V → Value → Prop) : Option V → Option Value → Prop
  | none, none => True
  | some v, some u => R v u
  | _, _ => False
theorem optR_map {R : V → Value → Prop} {ev : Operand → V} {ae : Operand → Value} (h : ∀ x, R (ev x) (ae x)) (o : Option Operand) : OptR R (o.map ev) (o.map ae) := by cases o <;> simp [OptR, h]
section
variable {P : Program} {w : World} {O : Nat → Prop} {ι : List Loc}
theorem optInt_some {lo : Option V} {ulo : Option Value} (h : OptR (VR w O ι) lo ulo) {r : Option Int} (hr : optInt lo = some r) : (r = none ∧ ulo = none) ∨ ∃ k n, r = some n ∧ ulo = some (.int k n) := by
  cases lo with
  | none =>
    cases ulo with
    | none => simp [optInt] at hr; exact .inl ⟨hr.symm, rfl⟩
    | some u => simp [OptR] at h
  | some v =>
    cases ulo with
    | none => simp [OptR] at h
    | some u =>
      simp only [OptR] at h
      unfold optInt at hr
      split at hr
      · rename_i e; cases e
      · rename_i k n e
        cases e
        cases hr
        obtain rfl := pv_int h
        exact .inr ⟨_, _, rfl, rfl⟩
      · cases hr
theorem bound_run {k : IntKind} {n : Int} {y : Nat} {c : BoundsCode} (h : 0 ≤ n ∧ n ≤ (y : Int)) : (Instr.sliceBound (.int k n) y c).run P w = .ok n.toNat w := by
  simp only [Instr.sliceBound, Sem.run_bind, asIntOf, Sem.run_pure, Result.andThen_ok]
  rw [if_pos h]
  rfl
theorem bounds_run {bb : Bool} {len cap : Nat} (hlc : len ≤ cap) {lo hi : Option V} {ulo uhi : Option Value} (hlo : OptR (VR w O ι) lo ulo) (hhi : OptR (VR w O ι) hi uhi) {lo' hi' : Option Int} (h1 : optInt lo = some lo') (h2 : optInt hi = some hi')
    {l h : Nat} (hb : abounds len lo' hi' = some (l, h)) : (Instr.sliceBounds bb len cap ulo uhi none).run P w = .ok (l, h, cap) w ∧ l ≤ h ∧ h ≤ len := by
  rcases optInt_some hlo h1 with ⟨rfl, rfl⟩ | ⟨k, n, rfl, rfl⟩ <;> rcases optInt_some hhi h2 with ⟨rfl, rfl⟩ | ⟨k', m, rfl, rfl⟩ <;> simp only [abounds] at hb
  · simp at hb; obtain ⟨rfl, rfl⟩ := hb
    refine ⟨?_, by omega, by omega⟩
    simp only [Instr.sliceBounds, Sem.run_bind, Sem.run_pure, Result.andThen_ok]
  · split at hb
    · rename_i hc
      simp at hb; obtain ⟨rfl, rfl⟩ := hb
      refine ⟨?_, by omega, by omega⟩
      simp only [Instr.sliceBounds, Sem.run_bind, Sem.run_pure, Result.andThen_ok]
      rw [bound_run (by omega)]
      rfl
    · cases hb
  · split at hb
    · rename_i hc
      simp at hb; obtain ⟨rfl, rfl⟩ := hb
      refine ⟨?_, by omega, by omega⟩
      simp only [Instr.sliceBounds, Sem.run_bind, Sem.run_pure, Result.andThen_ok]
      rw [bound_run (by omega)]
      rfl
    · cases hb
  · split at hb
    · rename_i hc
      simp at hb; obtain ⟨rfl, rfl⟩ := hb
      refine ⟨?_, by omega, by omega⟩
      simp only [Instr.sliceBounds, Sem.run_bind, Sem.run_pure, Result.andThen_ok]
      rw [bound_run (by omega)]
      simp only [Result.andThen_ok]
      rw [bound_run (by omega)]
      rfl
    · cases hb
theorem extract_list (s : ByteArray) (l h : Nat) : (s.extract l h).data.toList = (s.data.toList.drop l).take (h - l) := by
  rw [ByteArray.data_extract, Array.toList_extract]
end
section
variable {P : Program} {E : Env} (hT : TyOk P E.ty) {t : Nat} {ti : TI} (ht : E.ty t = some ti) {w : World} {X : Nat → Prop} {ι : List Loc} {H : Heap} (hH : HR w X ι H)
include hT ht hH
theorem aslice_sound {x v : V} {ux : Value} {lo hi : Option V} {ulo uhi : Option Value} (hx : VR w (OX X ι H) ι x ux) (hlo : OptR (VR w (OX X ι H) ι) lo ulo) (hhi : OptR (VR w (OX X ι H) ι) hi uhi) (h : aslice E H ti x lo hi = some v) :
    ∃ u, (Instr.sliceAt t ux ulo uhi none).run P w = .ok u w ∧ VR w (OX X ι H) ι v u := by
  unfold aslice at h
  cases h1 : optInt lo with
  | none => simp [h1] at h
  | some lo' =>
    cases h2 : optInt hi with
    | none => simp [h1, h2] at h
    | some hi' =>
      simp only [h1, h2] at h
      split at h
      · rename_i s hd
        obtain ⟨a, rfl, rfl⟩ := pv_str hx
        split at h
        · rename_i l hh hb
          cases h
          have ha : a.data.toList.length = a.size := by rw [Array.length_toList]; rfl
          rw [ha] at hb
          obtain ⟨b1, b2, b3⟩ := bounds_run (P := P) (w := w) (bb := false) (Nat.le_refl _) hlo hhi h1 h2 hb
          refine ⟨.string (a.extract l hh), ?_, pr_str _ (extract_list a l hh)⟩
          simp only [Instr.sliceAt, Sem.run_bind, run_und hT ht, Result.andThen_ok, hd, Instr.slice, Option.isSome_none, Bool.false_eq_true, if_false, b1, Sem.run_pure]
        · cases h
      · rename_i xx e hd
        have pl : ∀ (a : Option Addr) (len cap l hh : Nat) (te : TI), E.ty e = some te → (Instr.sliceBounds true len cap ulo uhi none).run P w = .ok (l, hh, cap) w →
            (Instr.sliceAt t (.slice a len cap) ulo uhi none).run P w = .ok (.slice (if cap = l then a else a.map (·.add (l * te.sz))) (hh - l) (cap - l)) w := by
          intro a len cap l hh te hte hb
          simp only [Instr.sliceAt, Sem.run_bind, run_und hT ht, Result.andThen_ok, hd, Instr.slice, hb, run_sz hT hte, Sem.run_pure]
        split at h
        · rename_i te hte
          split at h
          · rename_i r hb
            cases h
            obtain ⟨l, hh⟩ := r
            obtain rfl : ux = .slice none 0 0 := by cases hx with | p _ _ hx => cases hx; rfl
            obtain ⟨b1, b2, b3⟩ := bounds_run (P := P) (w := w) (bb := true) (Nat.le_refl _) hlo hhi h1 h2 hb
            refine ⟨_, pl _ _ _ _ _ te hte b1, ?_⟩
            obtain rfl : l = 0 := by omega
            obtain rfl : hh = 0 := by omega
            simp
            exact .p _ _ .nils
          · cases h
        · rename_i te k xs hte
          split at h
          · rename_i hk
            subst hk
            split at h
            · rename_i l hh hb
              cases h
              cases hx with
              | p _ _ hx =>
                cases hx with
                | slNil _ a =>
                  obtain ⟨b1, b2, b3⟩ := bounds_run (P := P) (w := w) (bb := true) (Nat.le_refl _) hlo hhi h1 h2 (by simpa using hb)
                  refine ⟨_, pl _ _ _ _ _ te hte b1, ?_⟩
                  obtain rfl : l = 0 := by omega
                  obtain rfl : hh = 0 := by omega
                  simp
                  exact .p _ _ (.slNil _ _)
                | sl _ _ b o cap hf hbb hm hr hl =>
                  obtain ⟨b1, b2, b3⟩ := bounds_run (P := P) (w := w) (bb := true) hl hlo hhi h1 h2 hb
                  refine ⟨_, pl _ _ _ _ _ te hte b1, ?_⟩
                  have hlen : ((xs.drop l).take (hh - l)).length = hh - l := by simp; omega
                  by_cases hc : cap = l
                  · rw [if_pos hc]
                    have h0 : hh - l = 0 := by omega
                    have h3 : cap - l = 0 := by omega
                    rw [h0, h3, List.take_zero]
                    exact .p _ _ (.slNil _ _)
                  · rw [if_neg hc]
                    have hlies : PLies w (OX X ι H) b te.ek xs o := ⟨hf, fun i x j c hx hj => by
                      obtain ⟨u, g1, g2⟩ := hm i x j c hx hj
                      have := hr i x j c hx hj
                      rw [g1] at this
                      exact ⟨u, g1, g2, this⟩⟩
                    have := PR.of_lies_sl (cap := cap - l) (hlies.sub l (hh - l)) (fun hne => hbb (by rintro rfl; simp at hne)) (by omega)
                    rw [hlen] at this
                    simp only [Option.map_some, Addr.add_mid]
                    exact .p _ _ this
            · cases h
          · cases h
        · rename_i te id hte
          split at h
          · rename_i k m hbn
            split at h
            · rename_i hk
              subst hk
              split at h
              · rename_i l hh hb
                cases h
                cases hx with
                | ls _ lc b o cap hl hp g1 g2 =>
                  obtain ⟨e1, e2⟩ := bufN_loc hT ht hH hbn hl
                  rw [← e2] at hb
                  obtain ⟨b1, b2, b3⟩ := bounds_run (P := P) (w := w) (bb := true) g1 hlo hhi h1 h2 hb
                  refine ⟨_, pl _ _ _ _ _ te hte b1, ?_⟩
                  by_cases hc : cap = l
                  · rw [if_pos hc]
                    have h0 : hh - l = 0 := by omega
                    have h3 : cap - l = 0 := by omega
                    rw [h0, h3]
                    exact .lsubNil id l lc _ hl (fun h => by rw [hp] at h; cases h)
                  · rw [if_neg hc]
                    simp only [Option.map_some, Addr.add_mid]
                    have e3 : lc.sz = te.sz := e1
                    rw [← e3]
                    exact .lsub id l (hh - l) lc b o (cap - l) hl hp (by omega) (by rw [show l + (cap - l) = cap from by omega]; exact g2)
                | lsNil _ lc a hl hp g1 =>
                  obtain ⟨e1, e2⟩ := bufN_loc hT ht hH hbn hl
                  rw [← e2, g1] at hb
                  obtain ⟨b1, b2, b3⟩ := bounds_run (P := P) (w := w) (bb := true) (Nat.le_refl _) hlo hhi h1 h2 hb
                  refine ⟨_, pl _ _ _ _ _ te hte b1, ?_⟩
                  obtain rfl : l = 0 := by omega
                  obtain rfl : hh = 0 := by omega
                  simp
                  exact .lsubNil id 0 lc _ hl (fun _ => g1)
              · cases h
            · cases h
          · cases h
        · rename_i te id q n hte
          split at h
          · rename_i k m hbn
            split at h
            · rename_i hk
              obtain ⟨rfl, hqm⟩ := hk
              split at h
              · rename_i l hh hb
                cases h
                cases hx with
                | lsub _ _ _ lc b o cap hl hp g1 g2 =>
                  obtain ⟨e1, e2⟩ := bufN_loc hT ht hH hbn hl
                  obtain ⟨b1, b2, b3⟩ := bounds_run (P := P) (w := w) (bb := true) g1 hlo hhi h1 h2 hb
                  refine ⟨_, pl _ _ _ _ _ te hte b1, ?_⟩
                  by_cases hc : cap = l
                  · rw [if_pos hc]
                    have h0 : hh - l = 0 := by omega
                    have h3 : cap - l = 0 := by omega
                    rw [h0, h3]
                    exact .lsubNil id (q + l) lc _ hl (fun h => by rw [hp] at h; cases h)
                  · rw [if_neg hc]
                    simp only [Option.map_some, Addr.add_mid]
                    have e3 : lc.sz = te.sz := e1
                    rw [← e3, Nat.add_assoc, ← Nat.add_mul]
                    exact .lsub id (q + l) (hh - l) lc b o (cap - l) hl hp (by omega) (by rw [show q + l + (cap - l) = q + cap from by omega]; exact g2)
                | lsubNil _ _ lc a hl hg =>
                  obtain ⟨b1, b2, b3⟩ := bounds_run (P := P) (w := w) (bb := true) (Nat.le_refl _) hlo hhi h1 h2 hb
                  refine ⟨_, pl _ _ _ _ _ te hte b1, ?_⟩
                  obtain rfl : l = 0 := by omega
                  obtain rfl : hh = 0 := by omega
                  simp
                  exact .lsubNil id q lc _ hl hg
              · cases h
            · cases h
          · cases h
        · cases h
      · cases h
end
end Go.Ab
