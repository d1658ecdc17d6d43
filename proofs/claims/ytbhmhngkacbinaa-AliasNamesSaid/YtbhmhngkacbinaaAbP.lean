/- The interpreter's bytes and maps against the model's. Conditions: the table of types. -/
import Derived.Test.YtbhmhngkacbinaaAbO
namespace Go.Ab
open Go.RowKit
set_option autoImplicit false
set_option linter.unusedSimpArgs false

section
variable {P : Program} {w : World} {O : Nat → Prop}
theorem ba_beq (a b : ByteArray) : (a == b) = (a.data.toList == b.data.toList) := by
  cases a with | mk a => cases b with | mk b =>
  show (a == b) = (a.toList == b.toList)
  rw [Bool.eq_iff_iff, beq_iff_eq, beq_iff_eq, Array.toList_inj]
theorem keyEq_sound {d : TypeDesc} {a b : PV} {ua ub : Value} (ha : PR w O a ua) (hb : PR w O b ub) (hd : keyTy d a = true) {r : Bool} (h : keyEq a b = some r) : Instr.sameNow d ua ub = some r := by
  unfold keyEq at h
  split at h
  · cases ha with | str a => cases hb with | str b =>
    cases h
    unfold keyTy at hd
    split at hd
    · simp only [Instr.sameNow, ba_beq]
    · rename_i e; cases e
    · rename_i e; cases e
    · cases hd
  · cases ha with | int => cases hb with | int =>
    split at h
    · rename_i hk
      subst hk
      cases h
      unfold keyTy at hd
      split at hd
      · rename_i e; cases e
      · simp only [Instr.sameNow, if_true]
      · rename_i e; cases e
      · cases hd
    · cases h
  · cases ha with | bool => cases hb with | bool =>
    cases h
    unfold keyTy at hd
    split at hd
    · rename_i e; cases e
    · rename_i e; cases e
    · simp only [Instr.sameNow]
    · cases hd
  · cases h
theorem keyEq_same {k c : PV} {uk ek : Value} (hk : PR w O k uk) (hc : PR w O c ek) (h : keyEq k c = some true) : Instr.sameBits 10000 ek uk = true ∧ PR w O c uk := by
  unfold keyEq at h
  split at h
  · cases hk with | str a => cases hc with | str b =>
    simp at h
    have e : a = b := by cases a with | mk a => cases b with | mk b => simp only [Array.toList_inj] at h; rw [h]
    subst e
    exact ⟨by simp [Instr.sameBits, ba_beq], .str a⟩
  · cases hk with | int => cases hc with | int =>
    split at h
    · rename_i hkk
      simp at h
      subst hkk; subst h
      exact ⟨by simp [Instr.sameBits], .int _ _⟩
    · cases h
  · cases hk with | bool => cases hc with | bool =>
    simp at h; subst h
    exact ⟨by simp [Instr.sameBits], .bool _⟩
  · cases h
theorem findKey_sound {d : TypeDesc} {k : PV} {uk : Value} (hk : PR w O k uk) (hd : keyTy d k = true) : ∀ (ks : List PV) (es : List MapEntry) (i : Nat) (r : Option Nat), findKey k ks i = some r → ks.length = es.length → (∀ (j : Nat) (c : PV) (e : MapEntry), ks[j]? = some c → es[j]? = some e → PR w O c e.key) →
    (r = none ∧ Instr.findNow d uk es i = some none) ∨ ∃ j, r = some j ∧ i ≤ j ∧ j < i + ks.length ∧ ∃ e, es[j - i]? = some e ∧ Instr.findNow d uk es i = some (some (j, e.val)) ∧ ∃ c, ks[j - i]? = some c ∧ keyEq k c = some true
  | [], es, i, r, h, hl, _ => by
    simp [findKey] at h; subst h
    obtain rfl : es = [] := by cases es <;> simp_all
    exact .inl ⟨rfl, rfl⟩
  | x :: ks, es, i, r, h, hl, hr => by
    cases es with
    | nil => simp at hl
    | cons e es =>
      have hx := hr 0 x e rfl rfl
      simp only [findKey] at h
      cases hq : keyEq k x with
      | none => simp [hq] at h
      | some b =>
        have hs := keyEq_sound hk hx hd hq
        cases b with
        | true =>
          simp [hq] at h; subst h
          exact .inr ⟨i, rfl, Nat.le_refl _, by simp, e, by simp, by simp [Instr.findNow, hs], x, by simp, hq⟩
        | false =>
          simp only [hq] at h
          rcases findKey_sound hk hd ks es (i + 1) r h (by simpa using hl) (fun j c e hc he => hr (j + 1) c e (by simpa using hc) (by simpa using he)) with ⟨h1, h2⟩ | ⟨j, h1, h2, h3, e', h4, h5, c, h6, h7⟩
          · exact .inl ⟨h1, by simp [Instr.findNow, hs, h2]⟩
          · refine .inr ⟨j, h1, by omega, by simp; omega, e', ?_, by simp [Instr.findNow, hs, h5], c, ?_, h7⟩
            · rw [show j - i = (j - (i + 1)) + 1 from by omega]; simpa using h4
            · rw [show j - i = (j - (i + 1)) + 1 from by omega]; simpa using h6
end
section
variable {P : Program} {E : Env} (hT : TyOk P E.ty) {t : Nat} {ti : TI} (ht : E.ty t = some ti) {w : World} {X : Nat → Prop} {ι : List Loc} {H : Heap} (hH : HR w X ι H)
include hT ht
theorem checkKey_run {k : PV} {uk : Value} {O : Nat → Prop} (hk : PR w O k uk) (hd : keyTy ti.d k = true) (b : Bool) (n : Nat) : (Instr.checkKey b (n + 1) t uk).run P w = .ok () w := by
  rw [Instr.checkKey, Sem.run_bind, run_und hT ht, Result.andThen_ok]
  unfold keyTy at hd
  split at hd
  · rename_i e; rw [e]; rfl
  · rename_i e; rw [e]; rfl
  · rename_i e; rw [e]; rfl
  · cases hd
include hH
theorem mapOf_sound {m : V} {um : Value} (hm : VR w (OX X ι H) ι m um) {ks vs : List PV} (h : mapOf H m = some (ks, vs)) : ∃ r, um = .map (some r) ∧ MapAt w (OX X ι H) r ks vs := by
  have _u0 := hT
  have _u1 := ht
  unfold mapOf at h
  split at h
  · cases h
    cases hm with
    | p _ _ hm =>
      cases hm with
      | mp _ _ r es clk hr hO hk hv h1 h2 => exact ⟨r, rfl, ⟨es, clk, hr, hk, hv, h1, h2⟩⟩
  · cases hm with
    | lm _ l r o hl hp =>
      split at h
      · rename_i hB
        cases h
        have := hH.blk _ l _ hl hB
        simp only [BR, hp] at this
        exact ⟨r, rfl, this⟩
      · rename_i hB
        cases h
        have := hH.blk _ l _ hl hB
        simp only [BR, hp] at this
        exact ⟨r, rfl, this.2⟩
      · cases h
  · cases h
theorem alookup_sound {m k v : V} {um uk : Value} {ok : Bool} (hm : VR w (OX X ι H) ι m um) (hk : VR w (OX X ι H) ι k uk) (h : alookup E H ti m k ok = some v) : ∃ u, (Instr.lookup t um uk ok).run P w = .ok u w ∧ VR w (OX X ι H) ι v u := by
  unfold alookup at h
  split at h
  · rename_i kt et ks vs k' hd hmo
    obtain ⟨r, rfl, hma⟩ := mapOf_sound hT ht hH hm hmo
    obtain ⟨es, clk, e1, e2, e3, e4, e5⟩ := hma.at_
    cases hk with
    | p _ _ hk =>
      split at h
      · rename_i tk te htk hte
        split at h
        · rename_i hkt
          have hck := checkKey_run hT htk (w := w) hk hkt es.isEmpty 9999
          obtain ⟨z, hz, hzr⟩ := run_zero hT hte (w := w) (OX X ι H)
          have pre : (Instr.lookup t (.map (some r)) uk ok).run P w = ((Instr.findKey kt uk es.toList).run P w).andThen fun q w' => (do
              let (v, b) ← match q with
                | some (_, v) => pure (v, true)
                | none => pure (← zeroValue et, false)
              pure (if ok then .tuple #[v, .bool b] else v) : Sem Value).run P w' := by
            simp only [Instr.lookup, Sem.run_bind, run_und hT ht, Result.andThen_ok, hd, getObj, Sem.run, e1, Sem.run_pure]
            rw [show (10000 : Nat) = 9999 + 1 from rfl, hck]
            rfl
          split at h
          · rename_i i hf
            split at h
            · rename_i x hx
              cases h
              rcases findKey_sound hk hkt ks es.toList 0 _ hf (by simpa using e2) (fun j c e hc he => e4 j c e hc (by simpa using he)) with ⟨h1, _⟩ | ⟨j, h1, _, _, e, h4, h5, _⟩
              · cases h1
              · cases h1
                have hfk : (Instr.findKey kt uk es.toList).run P w = .ok (some (i, e.val)) w := by
                  simp only [Instr.findKey, Sem.run_bind, run_und hT htk, Result.andThen_ok, h5, Sem.run_pure]
                have he : es[i]? = some e := by simpa using h4
                have hv := e5 i x e hx he
                refine ⟨_, by rw [pre, hfk]; rfl, ?_⟩
                cases ok with
                | true =>
                  refine .tup _ _ rfl ?_
                  intro i c u hc hu
                  match i, hc, hu with
                  | 0, hc, hu => simp at hc hu; subst hc; subst hu; exact .p _ _ hv
                  | 1, hc, hu => simp at hc hu; subst hc; subst hu; exact pr_bool _
                  | i + 2, hc, hu => simp at hc
                | false => exact .p _ _ hv
            · cases h
          · rename_i hf
            cases h
            rcases findKey_sound hk hkt ks es.toList 0 _ hf (by simpa using e2) (fun j c e hc he => e4 j c e hc (by simpa using he)) with ⟨_, h2⟩ | ⟨j, h1, _⟩
            · have hfk : (Instr.findKey kt uk es.toList).run P w = .ok none w := by
                simp only [Instr.findKey, Sem.run_bind, run_und hT htk, Result.andThen_ok, h2, Sem.run_pure]
              refine ⟨if ok then .tuple #[z, .bool false] else z, ?_, ?_⟩
              · rw [pre, hfk]
                simp only [Result.andThen_ok, Sem.run_bind, hz, Sem.run_pure]
              · cases ok with
                | true =>
                  refine .tup _ _ rfl ?_
                  intro i c u hc hu
                  match i, hc, hu with
                  | 0, hc, hu => simp at hc hu; subst hc; subst hu; exact .p _ _ hzr
                  | 1, hc, hu => simp at hc hu; subst hc; subst hu; exact pr_bool _
                  | i + 2, hc, hu => simp at hc
                | false => exact .p _ _ hzr
            · cases h1
          · cases h
        · cases h
      · cases h
  · cases h
theorem amapUpdate_sound {m k v : V} {um uk uv : Value} {H' : Heap} (hm : VR w (OX X ι H) ι m um) (hk : VR w (OX X ι H) ι k uk) (hv : VR w (OX X ι H) ι v uv) (h : amapUpdate E H ti m k v = some H') :
    ∃ w', (Instr.mapUpdate t um uk uv).run P w = .ok () w' ∧ HR w' X ι H' ∧ Fr w ι H [] w' ι H' := by
  unfold amapUpdate at h
  split at h
  · rename_i kt et id k' v' hd
    cases hk with | p _ _ hk => cases hv with | p _ _ hv => cases hm with | lm _ l r o hl hp =>
    split at h
    · rename_i tk ks vs htk hB
      have hbr := hH.blk id l _ hl hB
      simp only [BR, hp] at hbr
      obtain ⟨es, clk, e1, e2, e3, e4, e5⟩ := hbr.at_
      split at h
      · rename_i hkt
        have hck := checkKey_run hT htk (w := w) hk hkt false 9999
        have hlt := heap_lt e1
        have fin : ∀ (es' : Array MapEntry) (clk' : Nat) (ks' vs' : List PV), ks'.length = es'.size → vs'.length = es'.size → (∀ (i : Nat) (c : PV) (e : MapEntry), ks'[i]? = some c → es'[i]? = some e → PR w (OX X ι H) c e.key) → (∀ (i : Nat) (c : PV) (e : MapEntry), vs'[i]? = some c → es'[i]? = some e → PR w (OX X ι H) c e.val) →
            HR { w with heap := w.heap.setIfInBounds r (.map es' clk') } X ι (H.set id (.mp ks' vs')) ∧ Fr w ι H [] { w with heap := w.heap.setIfInBounds r (.map es' clk') } ι (H.set id (.mp ks' vs')) := by
          intro es' clk' ks' vs' q1 q2 q3 q4
          refine hH.write hl hB rfl hp rfl (by simp) (fun c hc => by simp only [Array.getElem?_setIfInBounds]; rw [if_neg (fun e => hc e.symm)]) rfl rfl rfl (fun hs => ?_)
          simp only [BR, hp]
          exact ⟨es', clk', by simp [Array.getElem?_setIfInBounds, hlt], q1, q2, fun i c e a b => (q3 i c e a b).keep (hs.withX X), fun i c e a b => (q4 i c e a b).keep (hs.withX X)⟩
        split at h
        · rename_i i hf
          cases h
          rcases findKey_sound hk hkt ks es.toList 0 _ hf (by simpa using e2) (fun j c e hc he => e4 j c e hc (by simpa using he)) with ⟨h1, _⟩ | ⟨j, h1, _, hjl, e, h4, h5, c, h6, h7⟩
          · cases h1
          · cases h1
            have he : es[i]? = some e := by simpa using h4
            have hi : i < es.size := (Array.getElem?_eq_some_iff.1 he).1
            have hc : ks[i]? = some c := by simpa using h6
            have hfk : (Instr.findKey kt uk es.toList).run P w = .ok (some (i, e.val)) w := by
              simp only [Instr.findKey, Sem.run_bind, run_und hT htk, Result.andThen_ok, h5, Sem.run_pure]
            have hsb : Instr.sameBits 10000 e.key uk = true := by
              have hek := e4 i c e hc he
              exact (keyEq_same hk hek h7).1
            have hk2 : ∃ es', es' = es.modify i (fun e => { e with key := uk, val := uv }) := ⟨_, rfl⟩
            obtain ⟨es', hes'⟩ := hk2
            obtain ⟨f1, f2⟩ := fin es' clk ks (vs.set i v') (by rw [hes']; simp [e2]) (by rw [hes']; simp [e3]) (fun j d e' hd he' => by
                rw [hes', Array.getElem?_modify] at he'
                split at he'
                · rename_i hij
                  subst hij
                  simp [he] at he'
                  subst he'
                  rw [hc] at hd
                  cases hd
                  exact (keyEq_same hk (e4 i c e hc he) h7).2
                · exact e4 j d e' hd he') (fun j d e' hd he' => by
                rw [hes', Array.getElem?_modify] at he'
                split at he'
                · rename_i hij
                  subst hij
                  simp [he] at he'
                  subst he'
                  rcases get_set hd with ⟨hne, _⟩ | ⟨_, rfl, _⟩
                  · exact absurd rfl hne
                  · exact hv
                · rename_i hij
                  rcases get_set hd with ⟨_, hd⟩ | ⟨e0, _, _⟩
                  · exact e5 j d e' hd he'
                  · exact absurd e0.symm hij)
            refine ⟨_, ?_, f1, f2⟩
            simp only [Instr.mapUpdate, Sem.run_bind, run_und hT ht, Result.andThen_ok, hd, getObj, Sem.run, e1, Sem.run_pure]
            rw [show (10000 : Nat) = 9999 + 1 from rfl, hck]
            simp only [Result.andThen_ok, hfk, Sem.run_bind, he, Option.map_some, Option.getD_some, Instr.keyThatStays, hsb, if_true, Sem.run_pure, setObj, Sem.run, e1]
            rw [hes']
        · rename_i hf
          cases h
          rcases findKey_sound hk hkt ks es.toList 0 _ hf (by simpa using e2) (fun j c e hc he => e4 j c e hc (by simpa using he)) with ⟨_, h2⟩ | ⟨j, h1, _⟩
          · have hfk : (Instr.findKey kt uk es.toList).run P w = .ok none w := by
              simp only [Instr.findKey, Sem.run_bind, run_und hT htk, Result.andThen_ok, h2, Sem.run_pure]
            have push : ∀ {l : List PV} {x : PV}, l.length = es.size → ∀ (j : Nat) (d : PV) (e' : MapEntry), (l ++ [x])[j]? = some d → (es.push { key := uk, val := uv, born := clk })[j]? = some e' → (l[j]? = some d ∧ es[j]? = some e') ∨ (d = x ∧ e' = { key := uk, val := uv, born := clk }) := by
              intro l x hlen j d e' hd he'
              rw [Array.getElem?_push] at he'
              rcases get_snoc hd with hd | ⟨hj, rfl⟩
              · have := (List.getElem?_eq_some_iff.1 hd).1
                rw [if_neg (by omega)] at he'
                exact .inl ⟨hd, he'⟩
              · rw [if_pos (by omega)] at he'
                cases he'
                exact .inr ⟨rfl, rfl⟩
            obtain ⟨f1, f2⟩ := fin (es.push { key := uk, val := uv, born := clk }) (clk + 1) (ks ++ [k']) (vs ++ [v']) (by simp [e2]) (by simp [e3]) (fun j d e' hd he' => by
                rcases push e2 j d e' hd he' with ⟨a, b⟩ | ⟨rfl, rfl⟩
                · exact e4 j d e' a b
                · exact hk) (fun j d e' hd he' => by
                rcases push e3 j d e' hd he' with ⟨a, b⟩ | ⟨rfl, rfl⟩
                · exact e5 j d e' a b
                · exact hv)
            refine ⟨_, ?_, f1, f2⟩
            simp only [Instr.mapUpdate, Sem.run_bind, run_und hT ht, Result.andThen_ok, hd, getObj, Sem.run, e1, Sem.run_pure]
            rw [show (10000 : Nat) = 9999 + 1 from rfl, hck]
            simp only [Result.andThen_ok, hfk, setObj, Sem.run, e1]
          · cases h1
        · cases h
      · cases h
    · cases h
  · cases h
end
end Go.Ab
