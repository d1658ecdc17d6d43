/- Package mask's read comes to flt and inn; both Sets answer alike. Conditions: the tree and the signature read within the reading's bounds; the tree is no deeper than a million. -/
import Derived.Test.YtmlgidffgojkhaaPureM5
namespace Go.Proofs.Ytmlgidffgojkhaa.Pure
set_option linter.unusedVariables false
open Go.RowKit Go.Proofs.Ytmlgidffgojkhaa.Q Go.Proofs.YtmlgidffgojkhaaW.PrintWords Go.Proofs.YtmlgidffgojkhaaW.PrintMore

theorem those_is {σ : Type} (l : List Pm) (step : Int → σ → Option (Bool × σ)) (f : Pm → Bool) (u : σ → Pm → σ) (hs : ∀ (i : Nat) (p : Pm) (s : σ), l[i]? = some p → step (i : Int) s = some (f p, u s p)) :
    ∀ (ps : List Pm) (i : Nat) (acc : List Bool) (s : σ), i ≤ l.length → l.drop i = ps → ∀ k, ps.length < k → mask_those.g step k l.length (i : Int) acc s = some (acc ++ ps.map f, ps.foldl u s) := by
  intro ps
  induction ps with
  | nil =>
    intro i acc s hi h k hk
    have := drop_nil hi h
    obtain ⟨k, rfl⟩ : ∃ j, k = j + 1 := ⟨k - 1, by simp at hk; omega⟩
    rw [mask_those.g, if_neg (by omega)]
    simp
  | cons p ps ih =>
    intro i acc s hi h k hk
    obtain ⟨hlt, hp, hnext, _⟩ := drop_is h
    obtain ⟨k, rfl⟩ : ∃ j, k = j + 1 := ⟨k - 1, by simp at hk; omega⟩
    have := ih (i + 1) (acc ++ [f p]) (u s p) (by omega) hnext k (by simp at hk; omega)
    rw [mask_those.g, if_pos (by omega), hs i p s hp, Option.bind_some]
    rw [show ((i : Int) + 1) = ((i + 1 : Nat) : Int) from by omega, this]
    simp
theorem fold_or (f : Pm → Bool) : ∀ (l : List Pm) (s : Bool), l.foldl (fun s p => s || f p) s = (s || l.any f)
  | [], s => by simp
  | p :: ps, s => by rw [List.foldl_cons, fold_or f ps]; simp [Bool.or_assoc]
theorem all_match (nm : ByteArray) (hnm : nm.size ≤ 140737488351232) : ∀ (l : List Pm), (∀ p ∈ l, p.f0.size ≤ 140737488351232) → ∃ k, ∀ p ∈ l, mask_Match.f k nm p.f0 = some (mt nm p.f0)
  | [], _ => ⟨0, fun p hp => by cases hp⟩
  | p :: ps, h => by
    obtain ⟨k1, h1⟩ := all_match nm hnm ps (fun q hq => h q (List.mem_cons_of_mem _ hq))
    obtain ⟨k2, h2, _⟩ := match_mt nm p.f0 (by omega) (by have := h p (List.mem_cons_self ..); omega)
    refine ⟨max k1 k2, fun q hq => ?_⟩
    rcases List.mem_cons.1 hq with rfl | hq
    · exact more (fun k => mask_Match.mono _ _ k) h2 (Nat.le_max_right k1 k2)
    · exact more (fun k => mask_Match.mono _ _ k) (h1 q hq) (Nat.le_max_left k1 k2)
def countT : List Bool → Nat
  | [] => 0
  | b :: bs => (if b = true then 1 else 0) + countT bs
theorem countT_le : ∀ bs, countT bs ≤ bs.length
  | [] => Nat.le_refl _
  | b :: bs => by have := countT_le bs; simp only [countT, List.length_cons]; split <;> omega
theorem countT_all : ∀ bs : List Bool, (countT bs = bs.length ↔ bs.all id = true)
  | [] => by simp [countT]
  | b :: bs => by
    have h1 := countT_le bs
    have h2 := countT_all bs
    cases b
    · simp [countT]; omega
    · simp only [countT, List.length_cons, List.all_cons, id, Bool.true_and]
      rw [← h2]
      simp
      omega
theorem countT_any : ∀ bs : List Bool, (0 < countT bs ↔ bs.any id = true)
  | [] => by simp [countT]
  | b :: bs => by
    have h2 := countT_any bs
    cases b
    · simp only [countT, List.any_cons, id, Bool.false_or]
      rw [← h2]
      simp
    · simp [countT]; omega
theorem cnt_is (l : List Pm) (i : Nat) (p : Pm) (hi : l[i]? = some p) : ∀ (ys : List Nd) (c : Nat), c + ys.length ≤ 1000000000000000 → mask_read.cnt (ys.map fun y => l.map fun q => inn q y) (i : Int) (c : Int) = some ((c + countT (ys.map (inn p)) : Nat) : Int)
  | [], c, _ => by simp [mask_read.cnt, countT]
  | y :: ys, c, h => by
    have hlt : i < l.length := by
      rcases Nat.lt_or_ge i l.length with h1 | h1
      · exact h1
      · rw [List.getElem?_eq_none h1] at hi; cases hi
    have hrd : rdOf false (l.map fun q => inn q y) (i : Int) = inn p y := by
      unfold rdOf
      rw [Int.toNat_natCast, List.getD_eq_getElem?_getD, List.getElem?_map, hi]
      rfl
    simp only [List.length_cons] at h
    rw [List.map_cons, List.map_cons, mask_read.cnt, if_pos (by rw [List.length_map]; omega), hrd]
    cases hb : inn p y
    · have := cnt_is l i p hi ys c (by omega)
      simp only [Bool.false_eq_true, if_false, countT, Nat.zero_add]
      exact this
    · have := cnt_is l i p hi ys (c + 1) (by omega)
      simp only [if_true, countT]
      rw [wr64 _ (by omega) (by omega), show (c : Int) + 1 = ((c + 1 : Nat) : Int) from by omega, this]
      congr 2
      omega
theorem s2_is (l : List Pm) (x : Nd) (hlen : x.f5.length ≤ 1599289640354) (h5 : ¬ x.f0 = 5) (hshp : shp x.f1 x.f5.length = true) (i : Nat) (p : Pm) (hi : l[i]? = some p) :
    mask_read.s2 x.f1 l (x.f5.map fun y => l.map fun q => inn q y) (i : Int) = some (inn p x) := by
  have hlt : i < l.length := by
    rcases Nat.lt_or_ge i l.length with h1 | h1
    · exact h1
    · rw [List.getElem?_eq_none h1] at hi; cases hi
  rw [inn_eq, if_neg h5]
  unfold mask_read.s2
  rw [rd_pm hi]
  by_cases e1 : x.f1.toList = ([97, 108, 108] : List UInt8)
  · rw [if_pos e1, if_pos e1]
  by_cases e2 : x.f1.toList = ([114, 101, 97, 108] : List UInt8)
  · rw [if_neg e1, if_neg e1, if_pos e2, if_pos e2]
  by_cases e3 : x.f1.toList = ([99, 111, 109, 112, 108, 101, 120] : List UInt8)
  · rw [if_neg e1, if_neg e1, if_neg e2, if_neg e2, if_pos e3, if_pos e3]
  rw [if_neg e1, if_neg e1, if_neg e2, if_neg e2, if_neg e3, if_neg e3]
  by_cases e4 : x.f1.toList = ([110, 111, 116] : List UInt8)
  · rw [if_pos e4, if_pos e4]
    have hn := shp_not hshp e4
    cases hl5 : x.f5 with
    | nil => rw [hl5] at hn; simp at hn
    | cons y ys =>
      have hrd : rdOf false (l.map fun q => inn q y) (i : Int) = inn p y := by
        unfold rdOf
        rw [Int.toNat_natCast, List.getD_eq_getElem?_getD, List.getElem?_map, hi]
        rfl
      rw [List.map_cons]
      simp only
      rw [if_pos (by rw [List.length_map]; omega), hrd]
      rfl
  rw [if_neg e4, if_neg e4]
  have hc := cnt_is l i p hi x.f5 0 (by omega)
  rw [show ((0 : Nat) : Int) = 0 from rfl] at hc
  rw [hc, Option.bind_some, Nat.zero_add]
  have hle := countT_le (x.f5.map (inn p))
  have hal := countT_all (x.f5.map (inn p))
  have han := countT_any (x.f5.map (inn p))
  rw [List.length_map] at hal hle
  rw [List.length_map]
  by_cases e5 : x.f1.toList = ([97, 110, 100] : List UInt8)
  · rw [if_pos e5]
    have e6 : (x.f1.toList == ([111, 114] : List UInt8)) = false := by rw [e5]; rfl
    rw [e6, e5]
    simp only [beq_self_eq_true, Bool.true_and, Bool.false_and, Bool.or_false]
    congr 1
    apply bool_eq (P := countT (x.f5.map (inn p)) = x.f5.length)
    · simp <;> omega
    · exact hal.symm
  · rw [if_neg e5]
    have e5' : (x.f1.toList == ([97, 110, 100] : List UInt8)) = false := by simpa using e5
    rw [e5']
    by_cases e6 : x.f1.toList = ([111, 114] : List UInt8)
    · rw [if_pos e6, e6]
      simp only [beq_self_eq_true, Bool.true_and, Bool.false_and, Bool.false_or]
      congr 1
      apply bool_eq (P := 0 < countT (x.f5.map (inn p)))
      · simp <;> omega
      · exact han.symm
    · rw [if_neg e6]
      have e6' : (x.f1.toList == ([111, 114] : List UInt8)) = false := by simpa using e6
      rw [e6']
      simp
noncomputable def rdm (l : List Pm) (o : Option (Int × Int)) (x : Nd) : List Bool × Option (Int × Int) := match o with | some f => ([], some f) | none => (l.map fun p => inn p x, none)
theorem read_is (l : List Pm) (hl : Sig l) : ∀ x : Nd, ok29 x → ∀ root, ∃ k, mask_read.g k x l root = some (if root = false ∧ ¬ x.f4.toList = ([] : List UInt8) then ([], some (110, x.f6)) else rdm l (flt l x) x) := by
  obtain ⟨hll, hls⟩ := hl
  intro x
  induction x using tree_ind with
  | h x ih =>
    intro hx root
    obtain ⟨_, hnm, _, hlen, hmem, _⟩ := ok_inv hx
    by_cases hr : root = false ∧ ¬ x.f4.toList = ([] : List UInt8)
    · exact ⟨1, by rw [mask_read.g, if_pos hr, if_pos hr]⟩
    rw [if_neg hr]
    by_cases h5 : x.f0 = 5
    · obtain ⟨k, hk⟩ := all_match x.f1 hnm l hls
      refine ⟨max k (l.length + 1) + 1, ?_⟩
      have hstep : ∀ (i : Nat) (p : Pm) (s : Bool), l[i]? = some p → mask_read.s1 (max k (l.length + 1)) x.f1 l (i : Int) s = some (mt x.f1 p.f0, s || mt x.f1 p.f0) := by
        intro i p s hi
        unfold mask_read.s1
        rw [rd_pm hi, more (fun k => mask_Match.mono _ _ k) (hk p (List.mem_of_getElem? hi)) (Nat.le_max_left k (l.length + 1))]
        rfl
      have := those_is l _ (fun p => mt x.f1 p.f0) (fun s p => s || mt x.f1 p.f0) hstep l 0 [] false (by omega) rfl (max k (l.length + 1)) (by omega)
      rw [fold_or] at this
      rw [mask_read.g, if_neg hr, if_pos h5, if_pos (by omega)]
      rw [show ((0 : Nat) : Int) = 0 from rfl] at this
      rw [this, Option.bind_some, flt_eq, if_pos h5]
      simp only [Bool.false_or, List.nil_append]
      have hmap : (l.map fun p => mt x.f1 p.f0) = l.map fun p => inn p x := by
        apply List.map_congr_left
        intro p _
        rw [inn_eq, if_pos h5]
      split
      · rw [hmap]; rfl
      · rfl
    · by_cases h1 : x.f0 = 1
      · obtain ⟨k0, hk0⟩ := shape_is x
        by_cases hshp : shp x.f1 x.f5.length = true
        · have key : ∀ (ys : List Nd) (acc : List (List Bool)), (∀ y ∈ ys, y ∈ x.f5) → acc.length + ys.length ≤ 1599289640354 → ∃ k, mask_read.gl k ys l acc = some (match fltL l ys with | some f => ([], some f) | none => (acc ++ ys.map (fun y => l.map fun p => inn p y), none)) := by
            intro ys
            induction ys with
            | nil => intro acc _ _; exact ⟨1, by rw [mask_read.gl]; simp [fltL]⟩
            | cons y ys ih2 =>
              intro acc hsub hac
              have hy := hsub y (List.mem_cons_self ..)
              simp only [List.length_cons] at hac
              obtain ⟨k1, hk1⟩ := ih y hy (hmem y hy) false
              obtain ⟨k2, hk2⟩ := ih2 (acc ++ [l.map fun p => inn p y]) (fun z hz => hsub z (List.mem_cons_of_mem _ hz)) (by simp; omega)
              refine ⟨max k1 k2 + 1, ?_⟩
              rw [mask_read.gl, more (fun k => (mask_read.mono_l k).1 _ _ _) hk1 (Nat.le_max_left k1 k2), Option.bind_some, fltL]
              by_cases hkey : y.f4.toList = ([] : List UInt8)
              · rw [if_neg (by simp [hkey]), if_pos hkey]
                cases hf : flt l y with
                | some f => rfl
                | none =>
                  simp only [rdm]
                  rw [if_pos (by omega), more (fun k => (mask_read.mono_l k).2 _ _ _) hk2 (Nat.le_max_right k1 k2)]
                  cases fltL l ys <;> simp
              · rw [if_pos ⟨rfl, hkey⟩, if_neg hkey]
          obtain ⟨k1, hk1⟩ := key x.f5 [] (fun _ h => h) (by simp; omega)
          have hstep : ∀ (i : Nat) (p : Pm) (s : Unit), l[i]? = some p → (fun i (_ : Unit) => (mask_read.s2 x.f1 l (x.f5.map fun y => l.map fun p => inn p y) i).map (fun b => (b, ()))) (i : Int) s = some (inn p x, ()) := by
            intro i p s hi
            simp only
            rw [s2_is l x hlen h5 hshp i p hi]
            rfl
          have hth := those_is l (fun i (_ : Unit) => (mask_read.s2 x.f1 l (x.f5.map fun y => l.map fun p => inn p y) i).map (fun b => (b, ()))) (fun p => inn p x) (fun _ _ => ()) hstep l 0 [] () (by omega) rfl
          refine ⟨max k0 (max k1 (l.length + 1)) + 1, ?_⟩
          rw [mask_read.g, if_neg hr, if_neg h5, if_pos h1, more (fun k => mask_shape.mono _ _ _ _ _ _ _ k) hk0 (by omega), Option.bind_some, hshp, if_pos rfl, more (fun k => (mask_read.mono_l k).2 _ _ _) hk1 (by omega), Option.bind_some, flt_eq, if_neg h5, if_pos h1, if_pos hshp]
          cases hf : fltL l x.f5 with
          | some f => rfl
          | none =>
            simp only [List.nil_append]
            rw [if_pos (by omega)]
            have := hth (max k0 (max k1 (l.length + 1))) (by omega)
            rw [show ((0 : Nat) : Int) = 0 from rfl] at this
            rw [this]
            simp [rdm]
        · have hshp' : shp x.f1 x.f5.length = false := by simpa using hshp
          refine ⟨k0 + 1, ?_⟩
          rw [mask_read.g, if_neg hr, if_neg h5, if_pos h1, hk0, Option.bind_some, flt_eq, if_neg h5, if_pos h1, hshp']
          rfl
      · refine ⟨1, ?_⟩
        rw [mask_read.g, if_neg hr, if_neg h5, if_neg h1, flt_eq, if_neg h5, if_neg h1]
        rfl
/-- The places of the parameters that are meant. -/
noncomputable def sel (x : Nd) : List Pm → Nat → List Int
  | [], _ => []
  | p :: ps, i => if inn p x = true then (i : Int) :: sel x ps (i + 1) else sel x ps (i + 1)
noncomputable def msk (x : Nd) (l : List Pm) : List Int × Int × Int := if dep x > 64 then ([], 81, x.f6) else match flt l x with | some f => ([], f.1, f.2) | none => (sel x l 0, 0, 0)
theorem sel_its (x : Nd) (l : List Pm) (hl : l.length ≤ 4398046510976) : ∀ (ps : List Pm) (i : Nat) (out : List Int), i ≤ l.length → l.drop i = ps → out.length ≤ i → mask_Set.l (l.map fun p => inn p x) ps.length (i : Int) out = some (out ++ sel x ps i)
  | [], i, out, _, _, _ => by simp [mask_Set.l, sel]
  | p :: ps, i, out, hi, h, ho => by
    obtain ⟨hlt, hp, hnext, _⟩ := drop_is h
    have hrd : rdOf false (l.map fun q => inn q x) (i : Int) = inn p x := by
      unfold rdOf
      rw [Int.toNat_natCast, List.getD_eq_getElem?_getD, List.getElem?_map, hp]
      rfl
    rw [List.length_cons, mask_Set.l, if_pos (by rw [List.length_map]; omega), hrd, sel]
    have e2 : ((i : Int) + 1) = ((i + 1 : Nat) : Int) := by omega
    by_cases hb : inn p x = true
    · have := sel_its x l hl ps (i + 1) (out ++ [(i : Int)]) (by omega) hnext (by simp; omega)
      rw [if_pos hb, if_pos hb, if_pos (by omega), e2, this]
      simp
    · have := sel_its x l hl ps (i + 1) out (by omega) hnext (by omega)
      rw [if_neg hb, if_neg hb, e2, this]
theorem sel_ref (x : Nd) (hx : ok29 x) (l : List Pm) (hl : Sig l) (hf : flt l x = none) : ∀ (ps : List Pm) (i : Nat) (out : List Int), i ≤ l.length → l.drop i = ps → out.length ≤ i → ∃ k, latheref11_Set.l0 k l out (i : Int) x.f0 x.f1 x.f2 x.f3 x.f4 x.f5 x.f6 = some (out ++ sel x ps i, 0, 0)
  | [], i, out, hi, h, _ => by
    have := drop_nil hi h
    exact ⟨1, by rw [latheref11_Set.l0, if_neg (by omega)]; simp [sel]⟩
  | p :: ps, i, out, hi, h, ho => by
    obtain ⟨hlt, hp, hnext, hpm⟩ := drop_is h
    obtain ⟨k1, h1⟩ := in_is l hl x hx hf p hpm
    have hl1 := hl.1
    have e2 : wrap64 ((i : Int) + 1) = ((i + 1 : Nat) : Int) := by rw [wr64 _ (by omega) (by omega)]; omega
    by_cases hb : inn p x = true
    · obtain ⟨k2, h2⟩ := sel_ref x hx l hl hf ps (i + 1) (out ++ [(i : Int)]) (by omega) hnext (by simp; omega)
      refine ⟨max k1 k2 + 1, ?_⟩
      rw [latheref11_Set.l0, if_pos (by omega), if_pos (by omega), rd_pm hp, more (fun k => latheref11_In.mono _ _ _ _ _ _ _ _ _ _ k) h1 (Nat.le_max_left k1 k2), Option.bind_some, if_pos hb, if_pos (by omega), e2, more (fun k => latheref11_Set.mono_l k _ _ _ _ _ _ _ _ _ _) h2 (Nat.le_max_right k1 k2), sel, if_pos hb]
      simp
    · obtain ⟨k2, h2⟩ := sel_ref x hx l hl hf ps (i + 1) out (by omega) hnext (by omega)
      refine ⟨max k1 k2 + 1, ?_⟩
      rw [latheref11_Set.l0, if_pos (by omega), if_pos (by omega), rd_pm hp, more (fun k => latheref11_In.mono _ _ _ _ _ _ _ _ _ _ k) h1 (Nat.le_max_left k1 k2), Option.bind_some, if_neg hb, e2, more (fun k => latheref11_Set.mono_l k _ _ _ _ _ _ _ _ _ _) h2 (Nat.le_max_right k1 k2), sel, if_neg hb]
theorem set_is (x : Nd) (hx : ok29 x) (hd : dep x ≤ 1000000) (l : List Pm) (hl : Sig l) : ∃ k, mask_Set.f k x.f0 x.f1 x.f2 x.f3 x.f4 x.f5 x.f6 l = some (msk x l) := by
  obtain ⟨k1, h1⟩ := its_depth x hd
  obtain ⟨k2, h2⟩ := read_is l hl x hx true
  rw [if_neg (by simp)] at h2
  refine ⟨max k1 k2, ?_⟩
  unfold mask_Set.f msk
  rw [more (fun k => tree_Depth.mono _ _ _ _ _ _ _ k) h1 (Nat.le_max_left k1 k2), Option.bind_some]
  by_cases h64 : dep x > 64
  · rw [if_pos (by omega), if_pos h64]
  · have h3 := more (fun k => (mask_read.mono_l k).1 _ _ _) h2 (Nat.le_max_right k1 k2)
    have hxe : (⟨x.f0, x.f1, x.f2, x.f3, x.f4, x.f5, x.f6⟩ : Nd) = x := by cases x; rfl
    rw [if_neg (by omega), if_neg h64, hxe, h3, Option.bind_some]
    cases hf : flt l x with
    | some f => rfl
    | none =>
      have h4 := sel_its x l hl.1 l 0 [] (by omega) rfl (by simp)
      simp only [rdm]
      rw [show ((0 : Nat) : Int) = 0 from rfl] at h4
      rw [h4]
      rfl
theorem ref_set_is (x : Nd) (hx : ok29 x) (hd : dep x ≤ 1000000) (l : List Pm) (hl : Sig l) : ∃ k, latheref11_Set.f k x.f0 x.f1 x.f2 x.f3 x.f4 x.f5 x.f6 l = some (msk x l) := by
  obtain ⟨k1, h1⟩ := ref_depth x hx hd
  obtain ⟨k2, h2⟩ := fault_is l hl x hx
  unfold latheref11_Set.f msk
  by_cases h64 : dep x > 64
  · exact ⟨k1, by rw [h1, Option.bind_some, if_pos (by omega), if_pos h64]⟩
  · cases hf : flt l x with
    | some f =>
      rw [hf] at h2
      refine ⟨max k1 k2, ?_⟩
      rw [more (fun k => latheref07_Depth.mono _ _ _ _ _ _ _ k) h1 (Nat.le_max_left k1 k2), Option.bind_some, if_neg (by omega), if_neg h64, more (fun k => latheref11_fault.mono _ _ _ _ _ _ _ _ k) h2 (Nat.le_max_right k1 k2), Option.bind_some]
      simp only [Option.getD_some]
      rw [if_neg (flt_code l x f hf)]
    | none =>
      rw [hf] at h2
      obtain ⟨k3, h3⟩ := sel_ref x hx l hl hf l 0 [] (by omega) rfl (by simp)
      refine ⟨max k1 (max k2 k3), ?_⟩
      rw [more (fun k => latheref07_Depth.mono _ _ _ _ _ _ _ k) h1 (by omega), Option.bind_some, if_neg (by omega), if_neg h64, more (fun k => latheref11_fault.mono _ _ _ _ _ _ _ _ k) h2 (by omega), Option.bind_some]
      simp only [Option.getD_none, if_true]
      exact more (fun k => latheref11_Set.mono_l k _ _ _ _ _ _ _ _ _ _) h3 (by omega)
end Go.Proofs.Ytmlgidffgojkhaa.Pure
