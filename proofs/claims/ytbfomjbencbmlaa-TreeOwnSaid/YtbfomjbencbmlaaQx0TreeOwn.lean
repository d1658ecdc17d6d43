/- lathelaw07.TreeOwn's answer as a Lean function, and the proof that the Go code comes to just this answer. Conditions: those that each theorem names. -/
import Derived.Test.YtbfomjbencbmlaaOwnB
import Derived.Test.YtbfomjbencbmlaaQx0
import Derived.Test.YtbfomjbencbmlaaQx1
import Derived.Test.YtbfomjbencbmlaaQx14
import Derived.Test.YtbfomjbencbmlaaQx19
import Derived.Test.YtbfomjbencbmlaaQx7
import Derived.Test.YtbfomjbencbmlaaQx8
import Derived.Test.YtbfomjbencbmlaaQx9
namespace Go.Proofs.Ytbfomjbencbmlaa.Q
open Go.RowKit Go.Proofs.YtbfomjbencbmlaaW.PrintWords Go.Proofs.YtbfomjbencbmlaaW.PrintLast Go.Proofs.YtbfomjbencbmlaaW.PrintMore
set_option linter.unusedVariables false
set_option linter.unusedSimpArgs false
/-! ### lathelaw07_TreeOwn: function 9 -/
/-- The guard's part: every list may grow by one. -/
def lathelaw07_TreeOwn.may (s : S26) (l : List ByteArray) : Prop := (∀ n, roomy n s) ∧ (l.length + 1) * 16 ≤ 140737488355328
open Classical in
noncomputable def lathelaw07_TreeOwn.f (k : Nat) (a0_0 : Int) (a0_1 : ByteArray) (a0_2 : Int) (a0_3 : Int) (a0_4 : ByteArray) (l0_5 : List S26) (a0_6 : Int) : Option Bool :=
  (lathelaw07_big.f k a0_0 a0_1 a0_2 a0_3 a0_4 l0_5 a0_6).bind fun b => if b = true then lathelaw07_sure.f k else
  (lathelaw07_Twin.f k a0_0 a0_1 a0_2 a0_3 a0_4 l0_5 a0_6).bind fun m =>
  (tree_Strip.f k m.1 m.2.1 m.2.2.1 m.2.2.2.1 m.2.2.2.2.1 m.2.2.2.2.2.1 m.2.2.2.2.2.2).bind fun s =>
  (tree_Names.f k m.1 m.2.1 m.2.2.1 m.2.2.2.1 m.2.2.2.2.1 m.2.2.2.2.2.1 m.2.2.2.2.2.2).bind fun l =>
  if lathelaw07_TreeOwn.may ⟨s.1, s.2.1, s.2.2.1, s.2.2.2.1, s.2.2.2.2.1, s.2.2.2.2.2.1, s.2.2.2.2.2.2⟩ l then
    (lathelaw07_same.f k m.1 m.2.1 m.2.2.1 m.2.2.2.1 m.2.2.2.2.1 m.2.2.2.2.2.1 m.2.2.2.2.2.2 a0_0 a0_1 a0_2 a0_3 a0_4 l0_5 a0_6).bind fun q1 => if q1 = true then
      (latheref07_Strip.f k a0_0 a0_1 a0_2 a0_3 a0_4 l0_5 a0_6).bind fun t =>
      (lathelaw07_same.f k s.1 s.2.1 s.2.2.1 s.2.2.2.1 s.2.2.2.2.1 s.2.2.2.2.2.1 s.2.2.2.2.2.2 t.1 t.2.1 t.2.2.1 t.2.2.2.1 t.2.2.2.2.1 t.2.2.2.2.2.1 t.2.2.2.2.2.2).bind fun q2 => if q2 = true then
        (latheref07_Names.f k a0_0 a0_1 a0_2 a0_3 a0_4 l0_5 a0_6).bind fun l2 =>
        (lathelaw07_sameTexts.f k l l2).bind fun q3 => if q3 = true then (lathelaw07_sure.f k).bind fun q4 => if q4 = true then some true else none else none else none else none
  else none
open Classical in
theorem lathelaw07_TreeOwn.mono : ∀ a0 a1 a2 a3 a4 a5 a6 k, LeO (lathelaw07_TreeOwn.f k a0 a1 a2 a3 a4 a5 a6) (lathelaw07_TreeOwn.f (k + 1) a0 a1 a2 a3 a4 a5 a6) := by
  intro a0 a1 a2 a3 a4 a5 a6 k
  unfold lathelaw07_TreeOwn.f
  repeat' first
    | (with_reducible exact lathelaw07_big.mono _ _ _ _ _ _ _ _) | (with_reducible exact lathelaw07_sure.mono _) | (with_reducible exact lathelaw07_Twin.mono _ _ _ _ _ _ _ _) | (with_reducible exact tree_Strip.mono _ _ _ _ _ _ _ _) | (with_reducible exact tree_Names.mono _ _ _ _ _ _ _ _) | (with_reducible exact lathelaw07_same.mono _ _ _ _ _ _ _ _ _ _ _ _ _ _ _) | (with_reducible exact latheref07_Strip.mono _ _ _ _ _ _ _ _) | (with_reducible exact latheref07_Names.mono _ _ _ _ _ _ _ _) | (with_reducible exact lathelaw07_sameTexts.mono _ _ _)
    | (with_reducible exact LeO.refl _) | (with_reducible exact LeO.none _) | (with_reducible refine LeO.bind ?_ (fun _ => ?_)) | refine LeO.ite ?_ ?_ | exact LeO.none _
set_option maxHeartbeats 8000000 in
set_option maxRecDepth 100000 in
/-- A tree of too many nodes. -/
theorem lathelaw07_TreeOwn.big (k : Nat) (a0_0 : Int) (a0_1 : ByteArray) (a0_2 : Int) (a0_3 : Int) (a0_4 : ByteArray) (A0_5 : Option Addr) (c0_5 : Nat) (l0_5 : List S26) (a0_6 : Int) (r : Bool) (w : World) (hr0_5 : Kd.C k26 w A0_5 l0_5.length l0_5) (hc0_5 : l0_5.length ≤ c0_5)
    (hb : lathelaw07_big.f k a0_0 a0_1 a0_2 a0_3 a0_4 l0_5 a0_6 = some true) (hs : lathelaw07_sure.f k = some r) :
    Calls Try.prog 9 #[.agg #[.int .i64 a0_0, .string a0_1, .int .u32 a0_2, .int .i64 a0_3, .string a0_4, .slice A0_5 l0_5.length c0_5, .int .i64 a0_6]] w fun e w' => e = .returned (.bool r) ∧ Below w.heap.size w w' := by
  have hu26 := Try.underlying26
  have HR := Aside0.mk hr0_5
  have HC := Aside0.mk hc0_5
  have AB := Aside0.mk hb
  have AS := Aside0.mk hs
  clear hr0_5 hc0_5 hb hs
  go_enter Try.func9, Try.ntmps9
  go_wp2_with (first
    | ((with_reducible refine gate_dst (N := 1) rfl ?_); refine box_event ?hg (N := 1) ?hd (cs := cells7 a0_0 a0_1 a0_2 a0_3 a0_4 (.slice A0_5 l0_5.length c0_5) a0_6) (t := 26) ?hr ?_; (case hd => rfl); (case hg => rfl); (case hr => first | (go_simp; done) | (go_simp; rfl)); intro gb1 hg w2 hbox hb; have BK1 := Aside0.mk hbox; have HB := Aside0.mk hb; clear hb hbox hg; obtain ⟨hcz_0, hcz_1, hcz_2, hcz_3, hcz_4, hcz_5, hcz_6, hfz_0, hfz_1, hfz_2, hfz_3, hfz_4, hfz_5, hfz_6⟩ := blk7 BK1.out)
    | (go_at_call 10; refine (lathelaw07_big.calls k a0_0 a0_1 a0_2 a0_3 a0_4 A0_5 c0_5 l0_5 a0_6 true _ ?_ HC.out AB.out).mono ?_; exact Kd.C_below HR.out HB.out; rintro e w3 ⟨rfl, hb⟩; have HB3 := Aside0.mk (below_step HB.out hb); clear hb)
    | (go_at_call 11; refine (lathelaw07_sure.calls k r _ AS.out).mono ?_; rintro e w4 ⟨rfl, hb⟩; have HB4 := Aside0.mk (below_step HB3.out hb); clear hb)
    | fail)
  go_ret
  exact ⟨rfl, HB4.out⟩
set_option maxHeartbeats 8000000 in
set_option maxRecDepth 100000 in
/-- A tree that is looked at. -/
theorem lathelaw07_TreeOwn.small (k : Nat) (a0_0 : Int) (a0_1 : ByteArray) (a0_2 : Int) (a0_3 : Int) (a0_4 : ByteArray) (A0_5 : Option Addr) (c0_5 : Nat) (l0_5 : List S26) (a0_6 : Int) (w : World) (hr0_5 : Kd.C k26 w A0_5 l0_5.length l0_5) (hc0_5 : l0_5.length ≤ c0_5)
    (m0 : Int) (m1 : ByteArray) (m2 m3 : Int) (m4 : ByteArray) (m5 : List S26) (m6 : Int) (s0 : Int) (s1 : ByteArray) (s2 s3 : Int) (s4 : ByteArray) (s5 : List S26) (s6 : Int) (t0 : Int) (t1 : ByteArray) (t2 t3 : Int) (t4 : ByteArray) (t5 : List S26) (t6 : Int) (l l2 : List ByteArray)
    (hb : lathelaw07_big.f k a0_0 a0_1 a0_2 a0_3 a0_4 l0_5 a0_6 = some false) (hm : lathelaw07_Twin.f k a0_0 a0_1 a0_2 a0_3 a0_4 l0_5 a0_6 = some (m0, m1, m2, m3, m4, m5, m6)) (hs : tree_Strip.f k m0 m1 m2 m3 m4 m5 m6 = some (s0, s1, s2, s3, s4, s5, s6)) (hl : tree_Names.f k m0 m1 m2 m3 m4 m5 m6 = some l)
    (hmay : lathelaw07_TreeOwn.may ⟨s0, s1, s2, s3, s4, s5, s6⟩ l) (hq1 : lathelaw07_same.f k m0 m1 m2 m3 m4 m5 m6 a0_0 a0_1 a0_2 a0_3 a0_4 l0_5 a0_6 = some true) (ht : latheref07_Strip.f k a0_0 a0_1 a0_2 a0_3 a0_4 l0_5 a0_6 = some (t0, t1, t2, t3, t4, t5, t6))
    (hq2 : lathelaw07_same.f k s0 s1 s2 s3 s4 s5 s6 t0 t1 t2 t3 t4 t5 t6 = some true) (hl2 : latheref07_Names.f k a0_0 a0_1 a0_2 a0_3 a0_4 l0_5 a0_6 = some l2) (hq3 : lathelaw07_sameTexts.f k l l2 = some true) (hq4 : lathelaw07_sure.f k = some true) :
    Calls Try.prog 9 #[.agg #[.int .i64 a0_0, .string a0_1, .int .u32 a0_2, .int .i64 a0_3, .string a0_4, .slice A0_5 l0_5.length c0_5, .int .i64 a0_6]] w fun e w' => e = .returned (.bool true) ∧ Below w.heap.size w w' := by
  have hu26 := Try.underlying26
  have HR := Aside0.mk hr0_5
  have HC := Aside0.mk hc0_5
  have AB := Aside0.mk hb
  have AM := Aside0.mk hm
  have AS := Aside0.mk hs
  have AL := Aside0.mk hl
  have AY := Aside0.mk hmay
  have AQ1 := Aside0.mk hq1
  have AT := Aside0.mk ht
  have AQ2 := Aside0.mk hq2
  have AL2 := Aside0.mk hl2
  have AQ3 := Aside0.mk hq3
  have AQ4 := Aside0.mk hq4
  clear hr0_5 hc0_5 hb hm hs hl hmay hq1 ht hq2 hl2 hq3 hq4
  go_enter Try.func9, Try.ntmps9
  go_wp2_with (first
    | ((with_reducible refine gate_dst (N := 1) rfl ?_); refine box_event ?hg (N := 1) ?hd (cs := cells7 a0_0 a0_1 a0_2 a0_3 a0_4 (.slice A0_5 l0_5.length c0_5) a0_6) (t := 26) ?hr ?_; (case hd => rfl); (case hg => rfl); (case hr => first | (go_simp; done) | (go_simp; rfl)); intro gb1 hg w2 hbox hb; have BK1 := Aside0.mk hbox; have HB := Aside0.mk hb; have GE1 := Aside0.mk (show w.heap.size ≤ gb1 from Nat.le_of_eq hg.symm); clear hb hbox hg; obtain ⟨hcz_0, hcz_1, hcz_2, hcz_3, hcz_4, hcz_5, hcz_6, hfz_0, hfz_1, hfz_2, hfz_3, hfz_4, hfz_5, hfz_6⟩ := blk7 BK1.out)
    | (go_at_call 10; refine (lathelaw07_big.calls k a0_0 a0_1 a0_2 a0_3 a0_4 A0_5 c0_5 l0_5 a0_6 false _ ?_ HC.out AB.out).mono ?_; exact Kd.C_below HR.out HB.out; rintro e w3 ⟨rfl, hb⟩; replace BK1 := Aside0.mk (blk_below BK1.out hb); replace HB := Aside0.mk (below_step HB.out hb); clear hb hcz_0 hcz_1 hcz_2 hcz_3 hcz_4 hcz_5 hcz_6 hfz_0 hfz_1 hfz_2 hfz_3 hfz_4 hfz_5 hfz_6; obtain ⟨hcz_0, hcz_1, hcz_2, hcz_3, hcz_4, hcz_5, hcz_6, hfz_0, hfz_1, hfz_2, hfz_3, hfz_4, hfz_5, hfz_6⟩ := blk7 BK1.out)
    | (go_at_call 12; refine (lathelaw07_Twin.calls k a0_0 a0_1 a0_2 a0_3 a0_4 A0_5 c0_5 l0_5 a0_6 m0 m1 m2 m3 m4 m5 m6 _ ?_ HC.out AM.out).mono ?_; exact Kd.C_below HR.out HB.out; rintro e w4 ⟨vm, rfl, ho, hb⟩; obtain ⟨Am, cm, rfl⟩ := Kd.R_slice ho; have HM := Aside0.mk (Kd.R_lower (Kd.R_newB ho BK1.out) HB.out.size); replace BK1 := Aside0.mk (blk_below BK1.out hb); replace HB := Aside0.mk (below_step HB.out hb); clear ho hb hcz_0 hcz_1 hcz_2 hcz_3 hcz_4 hcz_5 hcz_6 hfz_0 hfz_1 hfz_2 hfz_3 hfz_4 hfz_5 hfz_6)
    | ((with_reducible refine gate_dst (N := 3) rfl ?_); refine box_event ?hg (N := 3) ?hd (cs := #[.int .i64 0, .string (⟨#[]⟩ : ByteArray), .int .u32 0, .int .i64 0, .string (⟨#[]⟩ : ByteArray), .slice none 0 0, .int .i64 0]) (t := 26) ?hr ?_; (case hd => rfl); (case hg => rfl); (case hr => first | (go_simp; done) | (go_simp; rfl)); intro gb3 hg w5 hbox hb; have BK3 := Aside0.mk hbox; have N13 := Aside0.mk (show gb1 ≠ gb3 from fun e => by have h_ := blk_lt BK1.out; omega); have GE3 := Aside0.mk (show w.heap.size ≤ gb3 from by have h_ := HB.out.size; omega); replace HM := Aside0.mk (Kd.R_below (Kd.R_elderB HM.out gb3 (Nat.le_of_eq hg.symm)) hb); replace BK1 := Aside0.mk (blk_below BK1.out hb); replace HB := Aside0.mk (below_step HB.out hb); clear hb hbox hg)
    | ((with_reducible refine gate_store (t := 26) (p := 3) (v := .tmp 11) rfl ?_); refine store_event rfl rfl rfl (run_store_op 26 (.tmp 3) (.tmp 11) rfl _ (.agg (cells7 m0 m1 m2 m3 m4 (.slice Am m5.length cm) m6)) rfl rfl (run_store_run (e := 26) 26 _ [.int .i64 m0, .string m1, .int .u32 m2, .int .i64 m3, .string m4, .slice Am m5.length cm, .int .i64 m6] BK3.out rfl (by kernel_rfl) (by simp) (by simp [Value.oneCell']))) ?_; intro w6 hw6; obtain ⟨hst, hgr⟩ := stored7 BK3.out hw6; have OP : Aside0 (OwnP w w6 gb1 gb3 (cells7 a0_0 a0_1 a0_2 a0_3 a0_4 (.slice A0_5 l0_5.length c0_5) a0_6) (cells7 m0 m1 m2 m3 m4 (.slice Am m5.length cm) m6) (.slice Am m5.length cm) m5) := ⟨⟨hg_below HB.out hgr (fun k_ e_ => by injection e_ with e_; have h_ := GE3.out; omega), blk_grown BK1.out hgr (fun e_ => N13.out (Option.some.inj e_)), hst, GE1.out, GE3.out, N13.out, Kd.R_grown (Kd.R_mono HM.out (fun k_ hk_ => ⟨hk_.1.2, hk_.2⟩)) hgr (fun k_ hk_ e_ => hk_.2 (Option.some.inj e_))⟩⟩; clear hst hgr hw6 BK1 BK3 HB HM)
    | fail)
  refine start_ (n := 7) (S := fun w' => w'.heap[gb3]? = some (.cells (cells7 m0 m1 m2 m3 m4 (.slice Am m5.length cm) m6) 26 (0, 0))) (ds := [5]) #[false, false, false, false, false, false, false] (by kernel_rfl) rfl rfl (by exact OP.out.b3) (fun hHeld => ?_)
  have OP2 : Aside0 (OwnP w w6.drew gb1 gb3 (cells7 a0_0 a0_1 a0_2 a0_3 a0_4 (.slice A0_5 l0_5.length c0_5) a0_6) (cells7 m0 m1 m2 m3 m4 (.slice Am m5.length cm) m6) (.slice Am m5.length cm) m5) := ⟨⟨below_drew OP.out.below, OP.out.b1, OP.out.b3, OP.out.ge1, OP.out.ge3, OP.out.ne, Kd.R_drew OP.out.row⟩⟩
  generalize w6.drew = wA at OP2 hHeld ⊢
  clear OP
  refine take_ (i := 0) (N := some 12) (v := .agg (cells7 m0 m1 m2 m3 m4 (.slice Am m5.length cm) m6)) (a' := ?_) #[true, false, false, false, false, false, false] rfl rfl (by kernel_rfl) (fun _ _ _ h => h) (Or.inl ⟨by rfl, ?_⟩) hHeld ?_ ?_
  · intro w' hs_
    obtain ⟨hcz_0, hcz_1, hcz_2, hcz_3, hcz_4, hcz_5, hcz_6, hfz_0, hfz_1, hfz_2, hfz_3, hfz_4, hfz_5, hfz_6⟩ := blk7 hs_
    go_simp
  rotate_left
  · simp only [Act.put, List.setIfInBounds_toArray, List.set_cons_zero, List.set_cons_succ, i64_w, i32_w]
    rfl
  refine take_ (i := 2) (N := some 14) (v := .agg (cells7 m0 m1 m2 m3 m4 (.slice Am m5.length cm) m6)) (a' := ?_) #[true, false, true, false, false, false, false] rfl rfl (by kernel_rfl) (fun _ _ _ h => h) (Or.inl ⟨by rfl, ?_⟩) hHeld ?_ ?_
  · intro w' hs_
    obtain ⟨hcz_0, hcz_1, hcz_2, hcz_3, hcz_4, hcz_5, hcz_6, hfz_0, hfz_1, hfz_2, hfz_3, hfz_4, hfz_5, hfz_6⟩ := blk7 hs_
    go_simp
  rotate_left
  · simp only [Act.put, List.setIfInBounds_toArray, List.set_cons_zero, List.set_cons_succ, i64_w, i32_w]
    rfl
  have HMC : Aside0 (m5.length ≤ cm) := ⟨(Kd.R_reads' OP2.out.row).2.1⟩
  have HMD : Aside0 (Kd.C k26 wA Am m5.length m5) := ⟨(Kd.R_reads' OP2.out.row).2.2⟩
  refine join_ (σ := Value × Value × Nat) 2 #[true, true, true, true, true, false, false] (fun s => [(13, .agg (cells7 s0 s1 s2 s3 s4 s.1 s6)), (15, s.2.1), (4, .pointer (some ⟨s.2.2, 0, none⟩))]) (fun s w' => OwnF w w' gb1 gb3 s.2.2 (cells7 a0_0 a0_1 a0_2 a0_3 a0_4 (.slice A0_5 l0_5.length c0_5) a0_6) (cells7 m0 m1 m2 m3 m4 (.slice Am m5.length cm) m6) (.slice Am m5.length cm) s.1 s.2.1 m5 s5 l) ?_ (fun hJ => ?_)
  rotate_left
  · refine two_ (i := 1) (j := 4) (Ni := some 13) (Nj := some 4) #[true, true, true, false, false, false, false] #[true, false, true, false, true, false, false] rfl rfl rfl rfl (by kernel_rfl) (by decide) (by decide) (fun K hK => ?_) (fun K hK => ?_)
    · refine goes_ Try.func18 (by kernel_rfl) rfl #[.agg (cells7 m0 m1 m2 m3 m4 (.slice Am m5.length cm) m6)] (by rfl) rfl rfl (by (try simp only [List.map_toArray, List.map_cons, List.map_nil]); first | done | rfl) ?_
      refine (tree_Strip.callsS k m0 m1 m2 m3 m4 Am cm m5 m6 s0 s1 s2 s3 s4 s5 s6 _ HMD.out HMC.out AS.out).mono ?_
      rintro e wS ⟨va, rfl, hs, hbS⟩
      refine ⟨_, rfl, ?_⟩
      refine hK.out _ _ (blk_below hHeld hbS) (fun _ => ?_)
      clear hK K
      refine two_ (i := 3) (j := 4) (Ni := some 15) (Nj := some 4) #[true, true, true, true, false, false, false] #[true, true, true, false, true, false, false] rfl rfl rfl rfl (by kernel_rfl) (by decide) (by decide) (fun K hK => ?_) (fun K hK => ?_)
      · refine goes_ Try.func25 (by kernel_rfl) rfl #[.agg (cells7 m0 m1 m2 m3 m4 (.slice Am m5.length cm) m6)] (by rfl) rfl rfl (by (try simp only [List.map_toArray, List.map_cons, List.map_nil]); first | done | rfl) ?_
        refine (tree_Names.calls k m0 m1 m2 m3 m4 Am cm m5 m6 l _ (Kd.C_below HMD.out hbS) HMC.out AL.out).mono ?_
        rintro e wN ⟨vl, rfl, hl, hbN⟩
        refine ⟨_, rfl, ?_⟩
        refine hK.out _ _ (blk_below (blk_below hHeld hbS) hbN) (fun _ => ?_)
        clear hK K
        refine one_ (i := 4) (N := some 4) #[true, true, true, true, true, false, false] rfl rfl (by kernel_rfl) (by decide) (fun K hK => ?_)
        refine value_ (v := .pointer (some ⟨wN.heap.size, 0, none⟩)) (w1 := wN.alloc (.cells #[.int .i64 0, .string ⟨#[]⟩, .int .u32 0, .int .i64 0, .string ⟨#[]⟩, .slice none 0 0, .int .i64 0] 26)) rfl rfl (by first | (go_simp; done) | (go_simp; rfl)) ?_
        refine hK.out _ _ (blk_alloc (blk_below (blk_below hHeld hbS) hbN) _) (fun _ => ?_)
        clear hK K
        exact hJ (va, vl, wN.heap.size) _ (pathA OP2.out hs hbS hl hbN)
      · refine value_ (v := .pointer (some ⟨wS.heap.size, 0, none⟩)) (w1 := wS.alloc (.cells #[.int .i64 0, .string ⟨#[]⟩, .int .u32 0, .int .i64 0, .string ⟨#[]⟩, .slice none 0 0, .int .i64 0] 26)) rfl rfl (by first | (go_simp; done) | (go_simp; rfl)) ?_
        refine hK.out _ _ (blk_alloc (blk_below hHeld hbS) _) (fun _ => ?_)
        clear hK K
        refine one_ (i := 3) (N := some 15) #[true, true, true, true, true, false, false] rfl rfl (by kernel_rfl) (by decide) (fun K hK => ?_)
        refine goes_ Try.func25 (by kernel_rfl) rfl #[.agg (cells7 m0 m1 m2 m3 m4 (.slice Am m5.length cm) m6)] (by rfl) rfl rfl (by (try simp only [List.map_toArray, List.map_cons, List.map_nil]); first | done | rfl) ?_
        refine (tree_Names.calls k m0 m1 m2 m3 m4 Am cm m5 m6 l _ (Kd.C_below (Kd.C_below HMD.out hbS) (below_alloc (Below.refl _ _) _)) HMC.out AL.out).mono ?_
        rintro e wN ⟨vl, rfl, hl, hbN⟩
        refine ⟨_, rfl, ?_⟩
        refine hK.out _ _ (blk_below (blk_alloc (blk_below hHeld hbS) _) hbN) (fun _ => ?_)
        clear hK K
        refine norm_ ?_ (hJ (va, vl, wS.heap.size) _ (pathB OP2.out hs hbS hl hbN))
        simp only [putAll, Act.put, List.setIfInBounds_toArray, List.set_cons_zero, List.set_cons_succ]
    · refine value_ (v := .pointer (some ⟨wA.heap.size, 0, none⟩)) (w1 := wA.alloc (.cells #[.int .i64 0, .string ⟨#[]⟩, .int .u32 0, .int .i64 0, .string ⟨#[]⟩, .slice none 0 0, .int .i64 0] 26)) rfl rfl (by first | (go_simp; done) | (go_simp; rfl)) ?_
      refine hK.out _ _ (blk_alloc hHeld _) (fun _ => ?_)
      clear hK K
      refine one_ (i := 1) (N := some 13) #[true, true, true, false, true, false, false] rfl rfl (by kernel_rfl) (by decide) (fun K hK => ?_)
      refine goes_ Try.func18 (by kernel_rfl) rfl #[.agg (cells7 m0 m1 m2 m3 m4 (.slice Am m5.length cm) m6)] (by rfl) rfl rfl (by (try simp only [List.map_toArray, List.map_cons, List.map_nil]); first | done | rfl) ?_
      refine (tree_Strip.callsS k m0 m1 m2 m3 m4 Am cm m5 m6 s0 s1 s2 s3 s4 s5 s6 _ (Kd.C_below HMD.out (below_alloc (Below.refl _ _) _)) HMC.out AS.out).mono ?_
      rintro e wS ⟨va, rfl, hs, hbS⟩
      refine ⟨_, rfl, ?_⟩
      refine hK.out _ _ (blk_below (blk_alloc hHeld _) hbS) (fun _ => ?_)
      clear hK K
      refine one_ (i := 3) (N := some 15) #[true, true, true, true, true, false, false] rfl rfl (by kernel_rfl) (by decide) (fun K hK => ?_)
      refine goes_ Try.func25 (by kernel_rfl) rfl #[.agg (cells7 m0 m1 m2 m3 m4 (.slice Am m5.length cm) m6)] (by rfl) rfl rfl (by (try simp only [List.map_toArray, List.map_cons, List.map_nil]); first | done | rfl) ?_
      refine (tree_Names.calls k m0 m1 m2 m3 m4 Am cm m5 m6 l _ (Kd.C_below (Kd.C_below HMD.out (below_alloc (Below.refl _ _) _)) hbS) HMC.out AL.out).mono ?_
      rintro e wN ⟨vl, rfl, hl, hbN⟩
      refine ⟨_, rfl, ?_⟩
      refine hK.out _ _ (blk_below (blk_below (blk_alloc hHeld _) hbS) hbN) (fun _ => ?_)
      clear hK K
      refine norm_ ?_ (hJ (va, vl, wA.heap.size) _ (pathC OP2.out hs hbS hl hbN))
      simp only [putAll, Act.put, List.setIfInBounds_toArray, List.set_cons_zero, List.set_cons_succ]
  rintro ⟨va, vl, gb4⟩ wF hF
  have OF : Aside0 (OwnF w wF gb1 gb3 gb4 (cells7 a0_0 a0_1 a0_2 a0_3 a0_4 (.slice A0_5 l0_5.length c0_5) a0_6) (cells7 m0 m1 m2 m3 m4 (.slice Am m5.length cm) m6) (.slice Am m5.length cm) va vl m5 s5 l) := ⟨hF⟩
  clear hF OP2 HMC HMD hHeld
  obtain ⟨N0, N1, r1_, r3_, r4_, rN_, rM_, hmr, hsr, hlr⟩ := OF.out.rest
  obtain ⟨As, cs_, rfl⟩ := Kd.S_slice hsr
  obtain ⟨Al, cl, rfl⟩ := Kd.R_slice hlr
  have R1 := Aside0.mk r1_
  have R3 := Aside0.mk r3_
  have R4 := Aside0.mk r4_
  have RN := Aside0.mk rN_
  have RNM := Aside0.mk rM_
  have HMR := Aside0.mk hmr
  have HSR := Aside0.mk hsr
  have HLR := Aside0.mk hlr
  clear r1_ r3_ r4_ rN_ rM_ hmr hsr hlr
  refine norm_ (a' := ?_) ?_ ?_
  rotate_left
  · simp only [putAll, Act.put, List.setIfInBounds_toArray, List.set_cons_zero, List.set_cons_succ]
    rfl
  obtain ⟨w7, hw7⟩ : ∃ W, W = World.setCells wF gb4 0 [.int .i64 s0, .string s1, .int .u32 s2, .int .i64 s3, .string s4, .slice As s5.length cs_, .int .i64 s6] := ⟨_, rfl⟩
  have hrun7 : (Instr.storeAt 26 (.pointer (some ⟨gb4, 0, none⟩)) (.agg (cells7 s0 s1 s2 s3 s4 (.slice As s5.length cs_) s6))).run Try.prog wF = .ok () w7 := by rw [hw7]; exact run_store_run (e := 26) 26 _ [.int .i64 s0, .string s1, .int .u32 s2, .int .i64 s3, .string s4, .slice As s5.length cs_, .int .i64 s6] OF.out.b4 rfl (by kernel_rfl) (by simp) (by simp [Value.oneCell'])
  have HRUN7 := Aside0.mk hrun7
  have HW7 := Aside0.mk hw7
  clear hw7 hrun7
  refine last_ (i := 5) (N := none) #[true, true, true, true, true, true, false] rfl rfl (by kernel_rfl) (by decide) ?_
  intro K hK
  refine skip_ (w1 := w7) rfl rfl (run_store_op 26 (.tmp 4) (.tmp 13) rfl _ (.agg (cells7 s0 s1 s2 s3 s4 (.slice As s5.length cs_) s6)) rfl rfl HRUN7.out) ?_
  refine hK.out _ _ ?_
  clear hK K
  refine pure_ (i := 6) (N := some 5) (v := .slice Al l.length cl) (a' := ?_) #[true, true, true, true, true, true, true] rfl rfl (by kernel_rfl) (fun _ _ _ h => h) (Or.inl ⟨by rfl, ?_⟩) ?_ ?_
  · intro w'
    go_simp
  rotate_left
  · simp only [Act.put, List.setIfInBounds_toArray, List.set_cons_zero, List.set_cons_succ, i64_w, i32_w]
    rfl
  refine done_ (by kernel_rfl) ?_
  obtain ⟨hst4, hgr4⟩ := stored7 OF.out.b4 HW7.out
  obtain ⟨ns, hns⟩ := S_back HSR.out
  have HST4 := Aside0.mk hst4
  have HGR4 := Aside0.mk hgr4
  have HSN : Aside0 ((ksn (ns + 1)).M w7 w.heap.size (fun k => N0 ≤ k ∧ k < N1) ⟨s0, s1, s2, s3, s4, s5, s6⟩ [.int .i64 s0, .string s1, .int .u32 s2, .int .i64 s3, .string s4, .slice As s5.length cs_, .int .i64 s6]) := ⟨ksn_mkM _ _ _ ⟨s0, s1, s2, s3, s4, s5, s6⟩ (Kd.S_grown hns hgr4 (fun k_ hk_ e_ => by injection e_ with e_; rcases R4.out with h_ | h_ <;> omega))⟩
  have HCS : Aside0 (∀ (j : Nat) (u : Value), ([.int .i64 s0, .string s1, .int .u32 s2, .int .i64 s3, .string s4, .slice As s5.length cs_, .int .i64 s6])[j]? = some u → ((cells7 s0 s1 s2 s3 s4 (.slice As s5.length cs_) s6))[0 + j]? = some u) := ⟨fun j u h_ => by rw [Nat.zero_add]; simpa using h_⟩
  have HN4 : Aside0 (¬ (N0 ≤ gb4 ∧ gb4 < N1)) := ⟨fun h_ => by rcases R4.out with h2_ | h2_ <;> omega⟩
  have HBS : Aside0 (w.heap.size ≤ w7.heap.size) := ⟨Nat.le_trans OF.out.below.size hgr4.size⟩
  clear hst4 hgr4 hns HRUN7 HW7
  go_wp2_with (first
    | (go_at_call 29; refine (spoilt_any (ns + 1) ⟨s0, s1, s2, s3, s4, s5, s6⟩ _ _ w.heap.size gb4 0 _ 26 w7 HSN.out (AY.out.1 _) HBS.out HST4.out HCS.out HN4.out).mono ?_; rintro e w8 ⟨rfl, hsp⟩; have HSP := Aside0.mk hsp; clear hsp)
    | fail)
  obtain ⟨G, m, c, hG⟩ := OwnG.of OF.out R1.out R3.out R4.out RN.out RNM.out HMR.out HLR.out HST4.out HGR4.out HSP.out
  have OG : Aside0 (OwnG w w8 gb1 gb3 gb4 G m c (cells7 a0_0 a0_1 a0_2 a0_3 a0_4 (.slice A0_5 l0_5.length c0_5) a0_6) (cells7 m0 m1 m2 m3 m4 (.slice Am m5.length cm) m6) (.slice Am m5.length cm) (.slice Al l.length cl) m5 l ⟨s0, s1, s2, s3, s4, s5, s6⟩) := ⟨hG⟩
  have HLM : Aside0 (l.length ≤ 140737488355328) := ⟨by have h_ := AY.out.2; omega⟩
  have hlm := HLM.out
  clear hG OF R1 R3 R4 RN RNM HMR HSR HLR HST4 HGR4 HSP HSN HCS HN4 HBS
  go_loopw [6] (fun i wr => ∃ (j : Nat) (xs : List ByteArray), i = .int .i64 (j : Int) ∧ j ≤ l.length ∧ Aside0 (xs.length = l.length) ∧ Aside0 (OwnG w wr gb1 gb3 gb4 G m c (cells7 a0_0 a0_1 a0_2 a0_3 a0_4 (.slice A0_5 l0_5.length c0_5) a0_6) (cells7 m0 m1 m2 m3 m4 (.slice Am m5.length cm) m6) (.slice Am m5.length cm) (.slice Al l.length cl) m5 xs ⟨s0, s1, s2, s3, s4, s5, s6⟩)) (fun i _ => l.length - (intOf i).toNat)
  case atStart => exact ⟨0, l, rfl, Nat.zero_le _, ⟨rfl⟩, OG⟩
  case round =>
    clear OG
    obtain ⟨j, xs, rfl, hj, HX, OG⟩ := hrel
    by_cases hlt : j < l.length
    · obtain ⟨_, okl_, _, _, _, _, _, _, hlr⟩ := OG.out.rows
      obtain ⟨gl, cap, hv, _⟩ := Kd.R_form hlr (by have h_ := HX.out; omega)
      injection hv with hA _ _
      subst hA
      obtain ⟨cc, hcl, hcM, hcc, hcf⟩ := Kd.R_elem hlr ByteArray.empty (j : Int) (by omega) (by omega)
      have z0 : wr.cell? ⟨gl, j, none⟩ = some (.string (xs.getD j ByteArray.empty)) := by
        have h_ := hcc 0 (.string (xs.getD j ByteArray.empty)) (by rw [show cc = [Value.string (xs.getD (j : Int).toNat ByteArray.empty)] from hcM]; rfl)
        simpa [Kd.string, Kd.scalar] using h_
      have y0 : wr.frozen? ⟨gl, j, none⟩ = false := by simpa [Kd.string, Kd.scalar] using hcf 0
      clear hcl hcM hcc hcf hlr
      go_wp2_with fail
      go_roundw
      case rel => exact ⟨j + 1, xs.set j ⟨#[115, 112, 111, 105, 108, 116]⟩, by go_num, by omega, ⟨by rw [List.length_set]; exact HX.out⟩, ⟨OG.out.put j ⟨#[115, 112, 111, 105, 108, 116]⟩⟩⟩
      case measure => simp [intOf]; omega
    · obtain ⟨okm, okl, d_, n1_, n3_, n4_, hn_, hm_, hl_⟩ := OG.out.rows
      have HD := Aside0.mk d_
      have HN1 := Aside0.mk n1_
      have HN3 := Aside0.mk n3_
      have HN4 := Aside0.mk n4_
      have HNN := Aside0.mk hn_
      have HRM := Aside0.mk hm_
      have HRL := Aside0.mk hl_
      have HCAP : Aside0 ((xs.length + 1) * 16 ≤ 140737488355328) := ⟨by rw [HX.out]; exact AY.out.2⟩
      obtain rfl : j = l.length := by omega
      clear d_ n1_ n3_ n4_ hn_ hm_ hl_ hlt hj
      go_wp2_with (first
        | ((with_reducible refine gate_builtin (b := .append) (xs := #[.tmp 26, .tmp 27]) rfl ?_); at_builtin; refine Kd.R_append Kd.string (w0 := w) w.heap.size rfl (.tmp 26) (.tmp 27) 35 9 (.string ⟨#[]⟩) 16 rfl Try.underlying35 info9 rfl (by decide) (by omega) (.slice Al l.length cl) xs ⟨#[109, 111, 114, 101]⟩ [.string ⟨#[109, 111, 114, 101]⟩] okl (fun _ => False) rfl rfl rfl (fun _ hk => hk.elim) HNN.out HRL.out OG.out.below OG.out.below.size HCAP.out ?_; intro v1 w9 hR1 hB1 hg1 hat1; obtain ⟨gl, c9, hv1, _⟩ := Kd.R_form hR1 (by rw [List.length_append]; simp); rw [List.length_append, List.length_singleton, HX.out] at hv1; subst hv1; have hog := OG.out.names HD.out HN1.out HN3.out HN4.out HNN.out HRM.out HRL.out hg1 hR1; replace OG := Aside0.mk (hog.below' (below_drew (Below.refl _ _))); clear hR1 hB1 hg1 hat1 hog HD HN1 HN3 HN4 HNN HRM HRL HCAP)
        | fail)
      have hw0 : IntKind.i64.wrap ((l.length : Int) + 1 - 1) = (l.length : Int) := by rw [IntKind.wrap_i64]; omega
      have hw1 : IntKind.i64.wrap ((m : Int) + 1 - 1) = (m : Int) := by have h_ := OG.out.room; rw [IntKind.wrap_i64]; omega
      have hw2 : IntKind.i64.wrap (((l.length + 1 : Nat) : Int) - 1) = (l.length : Int) := by rw [IntKind.wrap_i64]; omega
      have hw3 : IntKind.i64.wrap (((m + 1 : Nat) : Int) - 1) = (m : Int) := by have h_ := OG.out.room; rw [IntKind.wrap_i64]; omega
      have hw4 : IntKind.i64.wrap (l.length : Int) = (l.length : Int) := by rw [IntKind.wrap_i64]; omega
      have hw5 : IntKind.i64.wrap (m : Int) = (m : Int) := by have h_ := OG.out.room; rw [IntKind.wrap_i64]; omega
      have hi4 : ((l.length : Int) < ((l.length + 1 : Nat) : Int)) = True := eq_true (by omega)
      have hi5 : ((m : Int) < ((m + 1 : Nat) : Int)) = True := eq_true (by omega)
      have hi0 : (0 : Int) ≤ (l.length : Int) := Int.natCast_nonneg _
      have hi1 : ((l.length : Int) < (l.length : Int) + 1) = True := eq_true (by omega)
      have hi2 : (0 : Int) ≤ (m : Int) := Int.natCast_nonneg _
      have hi3 : ((m : Int) < (m : Int) + 1) = True := eq_true (by omega)
      go_region_held3 (fun w' => w'.cell? ⟨gb3, 0, none⟩ = some (.int .i64 m0) ∧ w'.cell? ⟨gb3, 1, none⟩ = some (.string m1) ∧ w'.cell? ⟨gb3, 2, none⟩ = some (.int .u32 m2) ∧ w'.cell? ⟨gb3, 3, none⟩ = some (.int .i64 m3) ∧ w'.cell? ⟨gb3, 4, none⟩ = some (.string m4) ∧ w'.cell? ⟨gb3, 5, none⟩ = some (.slice Am m5.length cm) ∧ w'.cell? ⟨gb3, 6, none⟩ = some (.int .i64 m6) ∧ w'.cell? ⟨gb1, 0, none⟩ = some (.int .i64 a0_0) ∧ w'.cell? ⟨gb1, 1, none⟩ = some (.string a0_1) ∧ w'.cell? ⟨gb1, 2, none⟩ = some (.int .u32 a0_2) ∧ w'.cell? ⟨gb1, 3, none⟩ = some (.int .i64 a0_3) ∧ w'.cell? ⟨gb1, 4, none⟩ = some (.string a0_4) ∧ w'.cell? ⟨gb1, 5, none⟩ = some (.slice A0_5 l0_5.length c0_5) ∧ w'.cell? ⟨gb1, 6, none⟩ = some (.int .i64 a0_6) ∧ w'.cell? ⟨gb4, 5, none⟩ = some (.slice (some ⟨G, 0, none⟩) (m + 1) c) ∧ w'.cell? ⟨G, m * 7 + 1, none⟩ = some (.string ⟨#[109, 111, 114, 101]⟩) ∧ w'.cell? ⟨gl, l.length, none⟩ = some (.string ⟨#[109, 111, 114, 101]⟩)) (exact ⟨(blk_cell OG.out.b3 0).trans rfl, (blk_cell OG.out.b3 1).trans rfl, (blk_cell OG.out.b3 2).trans rfl, (blk_cell OG.out.b3 3).trans rfl, (blk_cell OG.out.b3 4).trans rfl, (blk_cell OG.out.b3 5).trans rfl, (blk_cell OG.out.b3 6).trans rfl, (blk_cell OG.out.b1 0).trans rfl, (blk_cell OG.out.b1 1).trans rfl, (blk_cell OG.out.b1 2).trans rfl, (blk_cell OG.out.b1 3).trans rfl, (blk_cell OG.out.b1 4).trans rfl, (blk_cell OG.out.b1 5).trans rfl, (blk_cell OG.out.b1 6).trans rfl, (blk_cell OG.out.b4 5).trans rfl, OG.out.moreCell, (by rw [← HX.out]; exact OG.out.lastCell)⟩) (first
        | (go_at_call 15; (with_reducible refine (lathelaw07_same.calls k m0 m1 m2 m3 m4 Am cm m5 m6 a0_0 a0_1 a0_2 a0_3 a0_4 A0_5 c0_5 l0_5 a0_6 true _ OG.out.rowC.1 OG.out.rowC.2 (Kd.C_below HR.out OG.out.below) HC.out AQ1.out).mono ?_); rintro e wx ⟨rfl, hb⟩; replace OG := Aside0.mk (OG.out.below' hb); clear hb)
        | (go_at_call 18; (with_reducible refine (tree_Strip.calls k m0 m1 m2 m3 m4 Am cm m5 m6 s0 s1 s2 s3 s4 s5 s6 _ OG.out.rowC.1 OG.out.rowC.2 AS.out).mono ?_); rintro e wx ⟨vx, rfl, ho, hb⟩; obtain ⟨A2, c2, rfl⟩ := Kd.R_slice ho; have HS2 := Aside0.mk (Kd.R_reads' ho).2; replace OG := Aside0.mk (OG.out.below' hb); clear hb; clear ho)
        | (go_at_call 23; (with_reducible refine (latheref07_Strip.calls k a0_0 a0_1 a0_2 a0_3 a0_4 A0_5 c0_5 l0_5 a0_6 t0 t1 t2 t3 t4 t5 t6 _ (Kd.C_below HR.out OG.out.below) HC.out AT.out).mono ?_); rintro e wx ⟨vx, rfl, ho, hb⟩; obtain ⟨A4, c4, rfl⟩ := Kd.R_slice ho; have HS4 := Aside0.mk (Kd.R_reads' ho).2; replace HS2 := Aside0.mk (And.intro HS2.out.1 (Kd.C_below HS2.out.2 hb)); replace OG := Aside0.mk (OG.out.below' hb); clear hb; clear ho)
        | (go_at_call 15; (with_reducible refine (lathelaw07_same.calls k s0 s1 s2 s3 s4 A2 c2 s5 s6 t0 t1 t2 t3 t4 A4 c4 t5 t6 true _ HS2.out.2 HS2.out.1 HS4.out.2 HS4.out.1 AQ2.out).mono ?_); rintro e wx ⟨rfl, hb⟩; replace OG := Aside0.mk (OG.out.below' hb); clear hb)
        | (go_at_call 25; (with_reducible refine (tree_Names.calls k m0 m1 m2 m3 m4 Am cm m5 m6 l _ OG.out.rowC.1 OG.out.rowC.2 AL.out).mono ?_); rintro e wx ⟨vx, rfl, ho, hb⟩; obtain ⟨A6, c6, rfl⟩ := Kd.R_slice ho; have HS6 := Aside0.mk (Kd.R_reads' ho).2; replace OG := Aside0.mk (OG.out.below' hb); clear hb; clear ho)
        | (go_at_call 26; (with_reducible refine (latheref07_Names.calls k a0_0 a0_1 a0_2 a0_3 a0_4 A0_5 c0_5 l0_5 a0_6 l2 _ (Kd.C_below HR.out OG.out.below) HC.out AL2.out).mono ?_); rintro e wx ⟨vx, rfl, ho, hb⟩; obtain ⟨A8, c8, rfl⟩ := Kd.R_slice ho; have HS8 := Aside0.mk (Kd.R_reads' ho).2; replace HS6 := Aside0.mk (And.intro HS6.out.1 (Kd.C_below HS6.out.2 hb)); replace OG := Aside0.mk (OG.out.below' hb); clear hb; clear ho)
        | (go_at_call 24; (with_reducible refine (lathelaw07_sameTexts.calls k A6 c6 l A8 c8 l2 true _ HS6.out.2 HS6.out.1 HS8.out.2 HS8.out.1 AQ3.out).mono ?_); rintro e wx ⟨rfl, hd⟩; have hb := hd.below; replace OG := Aside0.mk (OG.out.below' hb); clear hb; clear hd)
        | (go_at_call 11; (with_reducible refine (lathelaw07_sure.calls k true _ AQ4.out).mono ?_); rintro e wx ⟨rfl, hb⟩; replace OG := Aside0.mk (OG.out.below' hb); clear hb))
      go_wp2
      go_ret
      exact ⟨rfl, OG.out.below⟩
set_option maxHeartbeats 1000000 in
theorem lathelaw07_TreeOwn.calls (k : Nat) (a0_0 : Int) (a0_1 : ByteArray) (a0_2 : Int) (a0_3 : Int) (a0_4 : ByteArray) (A0_5 : Option Addr) (c0_5 : Nat) (l0_5 : List (S26)) (a0_6 : Int) (r : Bool) (w : World) (hr0_5 : Kd.C k26 w A0_5 l0_5.length l0_5) (hc0_5 : l0_5.length ≤ c0_5) (h : lathelaw07_TreeOwn.f k a0_0 a0_1 a0_2 a0_3 a0_4 l0_5 a0_6 = some r) :
  Calls Try.prog 9 #[.agg #[.int .i64 a0_0, .string a0_1, .int .u32 a0_2, .int .i64 a0_3, .string a0_4, .slice A0_5 l0_5.length c0_5, .int .i64 a0_6]] w fun e w' => e = .returned (.bool r) ∧ Below w.heap.size w w' := by
  unfold lathelaw07_TreeOwn.f at h
  obtain ⟨b, hb, h⟩ := Option.bind_eq_some_iff.mp h
  by_cases e : b = true
  · rw [if_pos e] at h
    subst e
    exact lathelaw07_TreeOwn.big k _ _ _ _ _ _ _ _ _ r w hr0_5 hc0_5 hb h
  rw [if_neg e] at h
  obtain rfl : b = false := by simpa using e
  obtain ⟨⟨m0, m1, m2, m3, m4, m5, m6⟩, hm, h⟩ := Option.bind_eq_some_iff.mp h
  obtain ⟨⟨s0, s1, s2, s3, s4, s5, s6⟩, hs, h⟩ := Option.bind_eq_some_iff.mp h
  obtain ⟨l, hl, h⟩ := Option.bind_eq_some_iff.mp h
  by_cases hmay : lathelaw07_TreeOwn.may ⟨s0, s1, s2, s3, s4, s5, s6⟩ l
  case neg => rw [if_neg hmay] at h; cases h
  rw [if_pos hmay] at h
  obtain ⟨q1, hq1, h⟩ := Option.bind_eq_some_iff.mp h
  by_cases e1 : q1 = true
  case neg => rw [if_neg e1] at h; cases h
  rw [if_pos e1] at h
  obtain ⟨⟨t0, t1, t2, t3, t4, t5, t6⟩, ht, h⟩ := Option.bind_eq_some_iff.mp h
  obtain ⟨q2, hq2, h⟩ := Option.bind_eq_some_iff.mp h
  by_cases e2 : q2 = true
  case neg => rw [if_neg e2] at h; cases h
  rw [if_pos e2] at h
  obtain ⟨l2, hl2, h⟩ := Option.bind_eq_some_iff.mp h
  obtain ⟨q3, hq3, h⟩ := Option.bind_eq_some_iff.mp h
  by_cases e3 : q3 = true
  case neg => rw [if_neg e3] at h; cases h
  rw [if_pos e3] at h
  obtain ⟨q4, hq4, h⟩ := Option.bind_eq_some_iff.mp h
  by_cases e4 : q4 = true
  case neg => rw [if_neg e4] at h; cases h
  rw [if_pos e4] at h
  subst e1; subst e2; subst e3; subst e4
  obtain rfl := Option.some.inj h
  exact lathelaw07_TreeOwn.small k _ _ _ _ _ _ _ _ _ w hr0_5 hc0_5 m0 m1 m2 m3 m4 m5 m6 s0 s1 s2 s3 s4 s5 s6 t0 t1 t2 t3 t4 t5 t6 l l2 hb hm hs hl hmay hq1 ht hq2 hl2 hq3 hq4
end Go.Proofs.Ytbfomjbencbmlaa.Q
