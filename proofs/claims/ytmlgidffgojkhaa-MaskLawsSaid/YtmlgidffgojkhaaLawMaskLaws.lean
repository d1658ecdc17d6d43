/- The row of the statement MaskLaws, out of its pure form and the contract of the law's Go function: for every input the law returns true and each argument reads as it did. Conditions: none. -/
import Derived.Test.YtmlgidffgojkhaaRows
import Derived.Test.YtmlgidffgojkhaaQx0MaskLaws
import Derived.Test.YtmlgidffgojkhaaOpenT
import Derived.Test.YtmlgidffgojkhaaOneMaskLaws
import Derived.WalkKit
import Derived.ProofKit
import Derived.OpenShut
import Derived.ShutString
import Derived.ChangeOld
import Derived.Below
import Derived.SizedLaws
import Derived.Carry
namespace Go.Proofs.Ytmlgidffgojkhaa.maskLaws
open Go.ChangeShapes Go.WideShapes Go.ChangeAt Go.RowKit
open Go.ChangeMaps (open_string shut_string)
open Go.Proofs.Ytmlgidffgojkhaa.Opens Go.Proofs.Ytmlgidffgojkhaa.Q Go.Proofs.YtmlgidffgojkhaaW.PrintWords
set_option linter.unusedVariables false
set_option linter.unusedSimpArgs false
theorem own : ownKnob Try.prog.godebug = none := by kernel_rfl
theorem laidOut : laidOutB Try.prog = true := by kernel_rfl
theorem k29_heap : Kd.Heap k29 := Kd.heap_fix (fun _ h_ => Kd.heap_iso _ (Kd.heap_pair (Kd.heap_int .i64) (Kd.heap_pair Kd.heap_string (Kd.heap_pair (Kd.heap_int .u32) (Kd.heap_pair (Kd.heap_int .i64) (Kd.heap_pair Kd.heap_string (Kd.heap_pair (Kd.heap_slice 29 h_) (Kd.heap_int .i64))))))))
set_option maxRecDepth 100000 in
theorem lifted (os : Os) (started : os.Started) (H : Type) (enc : TypeId × Value → H) :
    ReturnsInHanded {} Try.checked os 6 .any (Rows.maskLawsSpec.pre6 enc Try.prog Try.f6 Rows.maskLawsRow.domain false) (Rows.maskLawsSpec.post enc Try.prog Try.f6 false true false false) := by
  refine returnsInHanded_of_change_sized (C := Try.checked) own started (by kernel_rfl) Try.func6
    (ChangeSpec.witness6 (enc := enc) (C := Try.checked) false ⟨#[], #[.agg #[.int .i64 0, .string ByteArray.empty, .int .u32 0, .int .i64 0, .string ByteArray.empty, .slice none 0 0, .int .i64 0], .agg #[.int .i64 0, .string ByteArray.empty, .int .u32 0, .int .i64 0, .string ByteArray.empty, .slice none 0 0, .int .i64 0], .slice none 0 0], []⟩ 8 (by kernel_rfl) (by kernel_rfl) (by kernel_rfl) (by kernel_rfl)) ?_
  intro W base args ds gs before hval0 hW hcnd hsz0 _
  have hsz : (DataW.weightsEach Try.prog (Try.f6.params.toList ++ Rows.maskLawsSpec.plain.varTypes Try.prog) (ds ++ gs)).all (· ≤ reachBytes) = true := hsz0
  have hval : ∀ (j : Nat) t v, Try.f6.params[j]? = some t → args[j]? = some v → Value.okWide Try.prog W .any base t v := hval0
  have hW' := hW
  obtain ⟨p, q, hA0, hV, rfl, hfz, hnd⟩ := hW
  have hA : DataW.TrodAll enc Try.prog W 0 (fun _ => true) true Try.f6.params.toList args.toList ds p := hA0
  rw [Try.params6] at hA hval hsz
  obtain ⟨v0, vs0, d0, ds0, p0, q0, hargs, rfl, rfl, h0, r0⟩ := trodAll_cons hA
  obtain ⟨v1, vs1, d1, ds1, p1, q1, rfl, rfl, rfl, h1, r1⟩ := trodAll_cons r0
  obtain ⟨v2, vs2, d2, ds2, p2, q2, rfl, rfl, rfl, h2, r2⟩ := trodAll_cons r1
  obtain ⟨rfl, rfl, rfl⟩ := trodAll_nil r2
  obtain rfl : args = #[v0, v1, v2] := by cases args; simp_all
  obtain ⟨rfl, rfl⟩ := trodVars_none hV
  have k0_ := h0
  have lt0 : ∀ x ∈ p0, x.block < W.heap.size := by obtain ⟨m, hm⟩ := k0_; exact DataW.trod_lt m _ _ _ hm
  have light0 : Light Try.prog 29 d0 := fun m hm => by simpa using List.all_eq_true.1 hsz _ (DataW.weights_mem_each (j := 0) (t := 29) (d := d0) rfl rfl m hm)
  obtain ⟨x0, cs0, rfl, K0, b0⟩ := open_value (d := k29) (B := fun x_ => ok29 x_) Try.underlying29 (hval 0 29 v0 rfl rfl) h0 light0 (fun n_ => (opens29 n_))
  obtain ⟨A0_5, c0_5, hcs0, hl0_5, hC0_5⟩ := k29_open K0
  obtain rfl : cs0 = #[.int .i64 x0.f0, .string x0.f1, .int .u32 x0.f2, .int .i64 x0.f3, .string x0.f4, .slice A0_5 x0.f5.length c0_5, .int .i64 x0.f6] := by cases cs0; simp_all
  have k1_ := h1
  have lt1 : ∀ x ∈ p1, x.block < W.heap.size := by obtain ⟨m, hm⟩ := k1_; exact DataW.trod_lt m _ _ _ hm
  have light1 : Light Try.prog 29 d1 := fun m hm => by simpa using List.all_eq_true.1 hsz _ (DataW.weights_mem_each (j := 1) (t := 29) (d := d1) rfl rfl m hm)
  obtain ⟨x1, cs1, rfl, K1, b1⟩ := open_value (d := k29) (B := fun x_ => ok29 x_) Try.underlying29 (hval 1 29 v1 rfl rfl) h1 light1 (fun n_ => (opens29 n_))
  obtain ⟨A1_5, c1_5, hcs1, hl1_5, hC1_5⟩ := k29_open K1
  obtain rfl : cs1 = #[.int .i64 x1.f0, .string x1.f1, .int .u32 x1.f2, .int .i64 x1.f3, .string x1.f4, .slice A1_5 x1.f5.length c1_5, .int .i64 x1.f6] := by cases cs1; simp_all
  have k2_ := h2
  have lt2 : ∀ x ∈ p2, x.block < W.heap.size := by obtain ⟨m, hm⟩ := k2_; exact DataW.trod_lt m _ _ _ hm
  have light2 : Light Try.prog 30 d2 := fun m hm => by simpa using List.all_eq_true.1 hsz _ (DataW.weights_mem_each (j := 2) (t := 30) (d := d2) rfl rfl m hm)
  obtain ⟨l2, A2, c2, rfl, C2, hc2, b2⟩ := open_list (d := k45) (B := fun x_ => ok45 x_) Try.underlying30 (by exact (show Try.prog.cellsOf 45 = 3 by kernel_rfl)) (hval 2 30 v2 rfl rfl) h2 light2 (fun n_ => (opens45 n_))
  clear hA0 hval0 hsz0 hsz
  obtain ⟨k, hk⟩ := Pure.MaskLaws x0 x1 l2 b0 b1 b2
  refine (lathelaw11_MaskLaws.calls k x0.f0 x0.f1 x0.f2 x0.f3 x0.f4 (fun k_ => k_ < W.heap.size) A0_5 c0_5 x0.f5 x0.f6 x1.f0 x1.f1 x1.f2 x1.f3 x1.f4 (fun k_ => k_ < W.heap.size) A1_5 c1_5 x1.f5 x1.f6 A2 c2 l2 true W (Kd.V_mk hl0_5 (Kd.C_F k29_heap hC0_5)) (Kd.V_mk hl1_5 (Kd.C_F k29_heap hC1_5)) C2 hc2 hk).mono fun e W' hh => ?_
  obtain ⟨he, bel0⟩ := hh
  have bel : Below W.heap.size W W' := bel0
  subst he
  exact ⟨_, rfl, _, _, _, [], _, [], hW', trodAll_mk1 (shut_bool Try.underlying4 _), (trodAll_cons_mk (Below.trod laidOut (by kernel_rfl) (of_decide_eq_true (by kernel_rfl)) k0_ bel lt0) (trodAll_cons_mk (Below.trod laidOut (by kernel_rfl) (of_decide_eq_true (by kernel_rfl)) k1_ bel lt1) (trodAll_cons_mk (Below.trod laidOut (by kernel_rfl) (of_decide_eq_true (by kernel_rfl)) k2_ bel lt2) trodAll_mk0))), rfl, bel.frame _, fun h => by cases h⟩
theorem over : Rows.maskLawsRow.holds Try.pinned (OpenSpec.ofChange Rows.maskLawsSpec) :=
  OpenClaim.holds_of_wide 6 Try.f6 rfl rfl rfl rfl rfl rfl rfl ⟨rfl, rfl, rfl, rfl, rfl⟩ rfl rfl rfl rfl rfl (by kernel_rfl) Try.func6 (by kernel_rfl)
    (of_decide_eq_true (by kernel_rfl)) (by unfold Func.isWrapper; first | (rw [if_pos (by decide +kernel)]; kernel_rfl) | (rw [if_neg (by decide +kernel)]; exact ⟨rfl, rfl⟩))
    (fun os started H enc _ => lifted os started H enc)
theorem proved : Rows.MaskLawsSaid := over
#print axioms proved
end Go.Proofs.Ytmlgidffgojkhaa.maskLaws
namespace Go.Proofs.Ytmlgidffgojkhaa
/-- The row, under a short name, for the claim. -/
theorem maskLaws_holds : Rows.MaskLawsSaid := maskLaws.proved
end Go.Proofs.Ytmlgidffgojkhaa
