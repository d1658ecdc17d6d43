/- The interpreter's places, parts, lengths, slices, against the model's. Conditions: the table of types. -/
import Derived.Test.YtbhmhngkacbinaaAbJ
namespace Go.Ab
open Go.RowKit
set_option autoImplicit false
set_option linter.unusedSimpArgs false

section
variable {P : Program} {E : Env} (hT : TyOk P E.ty) {t : Nat} {ti : TI} (ht : E.ty t = some ti) {w : World} {X : Nat → Prop} {ι : List Loc} {H : Heap} (hH : HR w X ι H)
include hT ht hH
theorem afieldAddr_sound {x v : V} {i : Nat} {ux : Value} (hx : VR w (OX X ι H) ι x ux) (h : afieldAddr E ti x i = some v) : ∃ u, (Instr.fieldAt t ux i).run P w = .ok u w ∧ VR w (OX X ι H) ι v u := by
  have _u0 := hH
  unfold afieldAddr at h
  split at h
  · rename_i fs hd
    unfold fieldAt at h
    cases hf : fs[i]? with
    | none => simp [hf] at h
    | some f =>
      cases htf : E.ty f.type with
      | none => simp [hf, htf] at h
      | some tf =>
        simp only [hf, htf] at h
        split at h
        · cases h
        · rename_i hsz
          have pl : ∀ (A : Addr), (Instr.fieldAt t (.pointer (some A)) i).run P w = .ok (.pointer (some (A.add f.offset))) w := by
            intro A
            simp only [Instr.fieldAt, Sem.run_bind, run_und hT ht, Result.andThen_ok, hd, hf, Instr.sureAddr, Sem.run_pure, fieldPlace, run_sz hT htf]
            rw [if_neg hsz]
            simp
          split at h
          · rename_i k xs i' f'
            cases h
            cases hx with
            | p _ _ hx =>
              cases hx with
              | pp _ _ _ _ b o hi hf' hb hm hr =>
                refine ⟨_, pl _, .p _ _ ?_⟩
                rw [Addr.add_mid, Nat.add_assoc]
                exact .pp k xs i' (f' + f.offset) b o hi hf' hb hm hr
          · rename_i id i' f'
            cases h
            cases hx with
            | lp _ _ _ l b o hl hp =>
              refine ⟨_, pl _, ?_⟩
              rw [Addr.add_mid, Nat.add_assoc]
              exact .lp id i' (f' + f.offset) l b o hl hp
          · cases h
  · cases h
theorem bufN_loc {id : Nat} {k : EK} {m : Nat} (h : bufN H id = some (k, m)) {l : Loc} (hl : ι[id]? = some l) : l.sz = k.sz ∧ l.len = m := by
  have _u0 := hT
  have _u1 := ht
  unfold bufN at h
  cases hB : H[id]? with
  | none => simp [hB] at h
  | some B =>
    have hbr := hH.blk id l B hl hB
    rw [hB] at h
    cases B <;> simp at h
    all_goals (obtain ⟨rfl, rfl⟩ := h; exact ⟨hbr.1, hbr.2.1⟩)
theorem aindexAddr_sound {x i v : V} {ux ui : Value} (hx : VR w (OX X ι H) ι x ux) (hi : VR w (OX X ι H) ι i ui) (h : aindexAddr E H ti x i = some v) : ∃ u, (Instr.indexAt t ux ui).run P w = .ok u w ∧ VR w (OX X ι H) ι v u := by
  unfold aindexAddr at h
  split at h
  · rename_i e kk n hd
    obtain rfl := pv_int hi
    cases hte : E.ty e with
    | none => simp [hte] at h
    | some te =>
      simp only [hte] at h
      have pl : ∀ (A : Addr) (len cap : Nat), 0 ≤ n → n < (len : Int) → (Instr.indexAt t (.slice (some A) len cap) (.int kk n)).run P w = .ok (.pointer (some (A.add (n.toNat * te.sz)))) w := by
        intro A len cap h0 h1
        simp only [Instr.indexAt, Sem.run_bind, asIntOf, Sem.run_pure, Result.andThen_ok, run_und hT ht, hd]
        rw [if_pos ⟨h0, h1⟩, Sem.run_bind, run_sz hT hte]
        rfl
      split at h
      · rename_i k xs
        split at h
        · rename_i hc
          cases h
          obtain ⟨rfl, h0, h1⟩ := hc
          cases hx with
          | p _ _ hx =>
            cases hx with
            | slNil => simp at h1; omega
            | sl _ _ b o cap hf hb hm hr hl =>
              refine ⟨_, pl _ _ _ h0 h1, .p _ _ ?_⟩
              rw [Addr.add_mid]
              exact .pp te.ek xs n.toNat 0 b o (by omega) hf hb hm hr
        · cases h
      · rename_i id
        split at h
        · rename_i k m hb
          split at h
          · rename_i hc
            cases h
            obtain ⟨rfl, h0, h1⟩ := hc
            cases hx with
            | ls _ l b o cap hl hp g1 g2 =>
              obtain ⟨e1, e2⟩ := bufN_loc hT ht hH hb hl
              refine ⟨_, pl _ _ _ h0 (by omega), ?_⟩
              rw [Addr.add_mid]
              have := VR.lp (w := w) (O := OX X ι H) id n.toNat 0 l b o hl hp
              rw [e1] at this
              exact this
            | lsNil _ l a hl hp g1 =>
              obtain ⟨e1, e2⟩ := bufN_loc hT ht hH hb hl
              omega
          · cases h
        · cases h
      · rename_i id q m'
        split at h
        · rename_i k m hb
          split at h
          · rename_i hc
            cases h
            obtain ⟨rfl, h0, h1, h2⟩ := hc
            cases hx with
            | lsub _ _ _ l b o cap hl hp g1 g2 =>
              obtain ⟨e1, e2⟩ := bufN_loc hT ht hH hb hl
              refine ⟨_, pl _ _ _ h0 (by omega), ?_⟩
              rw [Addr.add_mid]
              have := VR.lp (w := w) (O := OX X ι H) id (q + n.toNat) 0 l b o hl hp
              rw [e1, show te.ek.sz = te.sz from rfl] at this
              rw [e1, show te.ek.sz = te.sz from rfl, Nat.add_assoc, ← Nat.add_mul]
              exact this
            | lsubNil _ _ l a hl hg => simp at h1; omega
          · cases h
        · cases h
      · cases h
  · rename_i len e kk n hd
    obtain rfl := pv_int hi
    cases hte : E.ty e with
    | none => simp [hte] at h
    | some te =>
      simp only [hte] at h
      split at h
      · rename_i hc
        have pl : ∀ (A : Addr), (Instr.indexAt t (.pointer (some A)) (.int kk n)).run P w = .ok (.pointer (some (A.add (n.toNat * te.sz)))) w := by
          intro A
          simp only [Instr.indexAt, Sem.run_bind, asIntOf, Sem.run_pure, Result.andThen_ok, run_und hT ht, hd, Instr.sureAddr]
          rw [if_pos hc, Sem.run_bind, run_sz hT hte]
          rfl
        split at h
        · rename_i k xs i' f'
          cases h
          cases hx with
          | p _ _ hx =>
            cases hx with
            | pp _ _ _ _ b o hi hf' hb hm hr =>
              refine ⟨_, pl _, .p _ _ ?_⟩
              rw [Addr.add_mid, Nat.add_assoc]
              exact .pp k xs i' (f' + n.toNat * te.sz) b o hi hf' hb hm hr
        · rename_i id i' f'
          cases h
          cases hx with
          | lp _ _ _ l b o hl hp =>
            refine ⟨_, pl _, ?_⟩
            rw [Addr.add_mid, Nat.add_assoc]
            exact .lp id i' (f' + n.toNat * te.sz) l b o hl hp
        · cases h
      · cases h
  · cases h
theorem aindex_sound {x i v : V} {ux ui : Value} (hx : VR w (OX X ι H) ι x ux) (hi : VR w (OX X ι H) ι i ui) (h : aindex ti x i = some v) : ∃ u, (Instr.index t ux ui).run P w = .ok u w ∧ VR w (OX X ι H) ι v u := by
  have _u0 := hH
  unfold aindex at h
  split at h
  · rename_i s kk n hd
    obtain rfl := pv_int hi
    obtain ⟨a, rfl, rfl⟩ := pv_str hx
    split at h
    · rename_i h0
      split at h
      · rename_i c hc
        cases h
        refine ⟨.int .u8 c.toNat, ?_, pr_int _ _⟩
        have : a[n.toNat]? = some c := by
          have hc' : a.data[n.toNat]? = some c := by simpa using hc
          obtain ⟨hlt, hv⟩ := Array.getElem?_eq_some_iff.1 hc'
          have hlt' : n.toNat < a.size := hlt
          rw [getElem?_pos a n.toNat hlt']
          exact congrArg some hv
        simp only [Instr.index, Sem.run_bind, asIntOf, Sem.run_pure, Result.andThen_ok, run_und hT ht, hd, h0, if_true, this]
      · cases h
    · cases h
  · cases h
theorem alen_sound {x : V} {ux : Value} {n : Nat} (hx : VR w (OX X ι H) ι x ux) (h : alen H ti x = some n) (ty : TypeId) : (Builtin.len_ #[t] ty #[ux]).run P w = .ok (.int .i64 n) w := by
  unfold alen at h
  have st : ∀ (c : Value) , (match ti.d, ux with
      | .string, .string s => some (goInt s.size)
      | .array n _, _ => some (goInt n)
      | .slice _, .slice _ n _ => some (goInt n)
      | _, _ => none) = some c → (Builtin.len_ #[t] ty #[ux]).run P w = .ok c w := by
    intro c hc
    simp only [Builtin.len_]
    rw [show (#[t][0]? : Option TypeId) = some t from rfl, show (#[ux][0]? : Option Value) = some ux from rfl]
    simp only [Sem.run_bind, run_und hT ht, Result.andThen_ok]
    split at hc <;> simp_all
  split at h
  · rename_i s hd
    cases h
    obtain ⟨a, rfl, rfl⟩ := pv_str hx
    exact st _ (by simp [hd, goInt])
  · rename_i hd
    cases h
    exact st _ (by simp [hd, goInt])
  · rename_i hd
    cases h
    obtain rfl : ux = .slice none 0 0 := by cases hx with | p _ _ hx => cases hx; rfl
    exact st _ (by simp [hd, goInt])
  · rename_i hd
    cases h
    cases hx with
    | p _ _ hx =>
      cases hx with
      | slNil => exact st _ (by simp [hd, goInt])
      | sl => exact st _ (by simp [hd, goInt])
  · rename_i id hd
    simp only [Option.map_eq_some_iff] at h
    obtain ⟨⟨k, m⟩, hb, rfl⟩ := h
    cases hx with
    | ls _ l b o cap hl hp g1 g2 =>
      obtain ⟨e1, e2⟩ := bufN_loc hT ht hH hb hl
      exact st _ (by simp [hd, goInt, e2])
    | lsNil _ l a hl hp g1 =>
      obtain ⟨e1, e2⟩ := bufN_loc hT ht hH hb hl
      exact st _ (by simp only [hd, goInt]; simp; omega)
  · rename_i id q l' hd
    cases h
    cases hx with
    | lsub => exact st _ (by simp [hd, goInt])
    | lsubNil => exact st _ (by simp [hd, goInt])
  · rename_i hd
    cases h
    cases hx with
    | p _ _ hx =>
      cases hx with
      | mp _ _ r es clk hr hO hk hv h1 h2 =>
        simp only [Builtin.len_]
        rw [show (#[t][0]? : Option TypeId) = some t from rfl, show (#[Value.map (some r)][0]? : Option Value) = some (.map (some r)) from rfl]
        simp only [Sem.run_bind, run_und hT ht, Result.andThen_ok, hd, getObj, Sem.run, hr, goInt, hk]
        rfl
  · rename_i id hd
    cases hx with
    | lm _ l r o hl hp =>
      have fin : ∀ (ks vs : List PV), MapAt w (OX X ι H) r ks vs → (Builtin.len_ #[t] ty #[.map (some r)]).run P w = .ok (.int .i64 (ks.length : Nat)) w := by
        intro ks vs hm
        obtain ⟨es, clk, g0, g1, _⟩ := hm.at_
        simp only [Builtin.len_]
        rw [show (#[t][0]? : Option TypeId) = some t from rfl, show (#[Value.map (some r)][0]? : Option Value) = some (.map (some r)) from rfl]
        simp only [Sem.run_bind, run_und hT ht, Result.andThen_ok, hd, getObj, Sem.run, g0, goInt, g1]
        rfl
      split at h
      · rename_i ks vs hB
        cases h
        have := hH.blk id l _ hl hB
        simp only [BR, hp] at this
        exact fin ks vs this
      · rename_i ks vs hB
        cases h
        have := hH.blk id l _ hl hB
        simp only [BR, hp] at this
        exact fin ks vs this.2
      · cases h
  · cases h
theorem afield_sound {x v : V} {i : Nat} {ux : Value} (hx : VR w (OX X ι H) ι x ux) (h : afield E ti x i = some v) : ∃ u, (Instr.field t ux i).run P w = .ok u w ∧ VR w (OX X ι H) ι v u := by
  have _u0 := hH
  unfold afield at h
  split at h
  · rename_i fs hd
    unfold fieldAt at h
    cases hf : fs[i]? with
    | none => simp [hf] at h
    | some f =>
      cases htf : E.ty f.type with
      | none => simp [hf, htf] at h
      | some tf =>
        simp only [hf, htf] at h
        have pl : ∀ us : Array Value, (Instr.field t (.agg us) i).run P w = (part f.type us f.offset).run P w := by
          intro us
          simp only [Instr.field, Sem.run_bind, run_und hT ht, Result.andThen_ok, hd, hf, asAgg, Sem.run_pure]
        cases ha : isAggD tf.d with
        | true =>
          have pa : ∀ us : Array Value, (part f.type us f.offset).run P w = .ok (.agg (us.extract f.offset (f.offset + tf.sz))) w := by
            intro us
            simp only [part, Sem.run_bind, run_agg hT htf, ha, Result.andThen_ok, if_true, run_sz hT htf, Sem.run_pure]
          simp only [ha, if_true] at h
          split at h
          · split at h
            · rename_i n cs hle
              cases h
              cases hx with
              | p _ _ hx =>
                cases hx with
                | agg _ _ us hn hu hs hc h' =>
                  refine ⟨_, (pl us).trans (pa us), .p _ _ (.agg tf.sz _ _ (by simp; omega) (by simp; omega) ?_ ?_ ?_)⟩
                  · intro j c hj
                    rw [List.getElem?_take] at hj
                    split at hj
                    · rw [List.getElem?_drop] at hj; exact hs _ c hj
                    · cases hj
                  · intro j u hj
                    rw [Array.getElem?_extract] at hj
                    split at hj
                    · exact hc _ u hj
                    · cases hj
                  · intro j c u hj hju
                    rw [List.getElem?_take] at hj
                    rw [Array.getElem?_extract] at hju
                    split at hj
                    · rw [List.getElem?_drop] at hj
                      split at hju
                      · exact h' _ c u hj hju
                      · cases hju
                    · cases hj
            · cases h
          · split at h
            · rename_i n cs hle
              cases h
              cases hx with
              | agg _ _ us hn hu hs hc h' =>
                refine ⟨_, (pl us).trans (pa us), .agg tf.sz _ _ (by simp; omega) (by simp; omega) ?_ ?_ ?_⟩
                · intro j c hj
                  rw [List.getElem?_take] at hj
                  split at hj
                  · rw [List.getElem?_drop] at hj; exact hs _ c hj
                  · cases hj
                · intro j u hj
                  rw [Array.getElem?_extract] at hj
                  split at hj
                  · exact hc _ u hj
                  · cases hj
                · intro j c u hj hju
                  rw [List.getElem?_take] at hj
                  rw [Array.getElem?_extract] at hju
                  split at hj
                  · rw [List.getElem?_drop] at hj
                    split at hju
                    · exact h' _ c u hj hju
                    · cases hju
                  · cases hj
            · cases h
          · cases h
        | false =>
          have pa : ∀ (us : Array Value) (u : Value), us[f.offset]? = some u → (part f.type us f.offset).run P w = .ok u w := by
            intro us u hu
            simp only [part, Sem.run_bind, run_agg hT htf, ha, Result.andThen_ok, Bool.false_eq_true, if_false, hu, Sem.run_pure]
          simp only [ha, if_false, Bool.false_eq_true] at h
          split at h
          · simp only [Option.map_eq_some_iff] at h
            obtain ⟨c, hc', rfl⟩ := h
            cases hx with
            | p _ _ hx =>
              cases hx with
              | agg _ _ us hn hu hs hc h' =>
                have hlt := (List.getElem?_eq_some_iff.1 hc').1
                have hus := Array.getElem?_eq_getElem (xs := us) (i := f.offset) (by omega)
                exact ⟨_, (pl us).trans (pa us _ hus), .p _ _ (h' _ c _ hc' hus)⟩
          · cases hx with
            | agg _ _ us hn hu hs hc h' =>
              have hlt := (List.getElem?_eq_some_iff.1 h).1
              have hus := Array.getElem?_eq_getElem (xs := us) (i := f.offset) (by omega)
              exact ⟨_, (pl us).trans (pa us _ hus), h' _ v _ h hus⟩
          · cases h
  · cases h
end
end Go.Ab
