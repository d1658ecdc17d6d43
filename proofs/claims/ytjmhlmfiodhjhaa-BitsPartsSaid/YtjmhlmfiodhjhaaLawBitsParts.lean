/- The row of the statement BitsParts, out of its pure form and the contract of the law's Go function: for every input the law returns true and each argument reads as it did. Conditions: none. -/
import Derived.Test.YtjmhlmfiodhjhaaRows
import Derived.Test.YtjmhlmfiodhjhaaQx2
import Derived.Test.YtjmhlmfiodhjhaaOpenT
import Derived.Test.YtjmhlmfiodhjhaaPureBitsParts
import Derived.WalkKit
import Derived.ProofKit
import Derived.OpenShut
import Derived.ShutString
import Derived.ChangeOld
import Derived.Below
import Derived.SizedLaws
import Derived.Carry
namespace Go.Proofs.Ytjmhlmfiodhjhaa.bitsParts
open Go.ChangeShapes Go.WideShapes Go.ChangeAt Go.RowKit
open Go.ChangeMaps (open_string shut_string)
open Go.Proofs.Ytjmhlmfiodhjhaa.Opens Go.Proofs.Ytjmhlmfiodhjhaa.Q Go.Proofs.YtjmhlmfiodhjhaaW.PrintWords
set_option linter.unusedVariables false
set_option linter.unusedSimpArgs false
theorem own : ownKnob Try.prog.godebug = none := by kernel_rfl
theorem laidOut : laidOutB Try.prog = true := by kernel_rfl
set_option maxRecDepth 100000 in
theorem lifted (os : Os) (started : os.Started) (H : Type) (enc : TypeId × Value → H) :
    ReturnsInHanded {} Try.checked os 4 .any (Rows.bitsPartsSpec.pre6 enc Try.prog Try.f4 Rows.bitsPartsRow.domain false) (Rows.bitsPartsSpec.post enc Try.prog Try.f4 false true false false) := by
  refine returnsInHanded_of_change_sized (C := Try.checked) own started (by kernel_rfl) Try.func4
    (ChangeSpec.witness6 (enc := enc) (C := Try.checked) false ⟨#[], #[.agg #[.int .u32 0, .bool false, .int .i64 0, .int .i64 0]], []⟩ 8 (by kernel_rfl) (by kernel_rfl) (by kernel_rfl) (by kernel_rfl)) ?_
  intro W base args ds gs before hval0 hW hcnd hsz0 _
  have hsz : (DataW.weightsEach Try.prog (Try.f4.params.toList ++ Rows.bitsPartsSpec.plain.varTypes Try.prog) (ds ++ gs)).all (· ≤ reachBytes) = true := hsz0
  have hval : ∀ (j : Nat) t v, Try.f4.params[j]? = some t → args[j]? = some v → Value.okWide Try.prog W .any base t v := hval0
  have hW' := hW
  obtain ⟨p, q, hA0, hV, rfl, hfz, hnd⟩ := hW
  have hA : DataW.TrodAll enc Try.prog W 0 (fun _ => true) true Try.f4.params.toList args.toList ds p := hA0
  rw [Try.params4] at hA hval hsz
  obtain ⟨v0, vs0, d0, ds0, p0, q0, hargs, rfl, rfl, h0, r0⟩ := trodAll_cons hA
  obtain ⟨rfl, rfl, rfl⟩ := trodAll_nil r0
  obtain rfl : args = #[v0] := by cases args; simp_all
  obtain ⟨rfl, rfl⟩ := trodVars_none hV
  have k0_ := h0
  have lt0 : ∀ x ∈ p0, x.block < W.heap.size := by obtain ⟨m, hm⟩ := k0_; exact DataW.trod_lt m _ _ _ hm
  have light0 : Light Try.prog 26 d0 := fun m hm => by simpa using List.all_eq_true.1 hsz _ (DataW.weights_mem_each (j := 0) (t := 26) (d := d0) rfl rfl m hm)
  obtain ⟨x0, cs0, rfl, K0, b0⟩ := open_value (d := (Kd.pair (Kd.int .u32) (Kd.pair Kd.bool (Kd.pair (Kd.int .i64) (Kd.int .i64))))) (B := fun x_ => (Lit.int .u32 x_.1).wf = true ∧ True ∧ (Lit.int .i64 x_.2.2.1).wf = true ∧ (Lit.int .i64 x_.2.2.2).wf = true) Try.underlying26 (hval 0 26 v0 rfl rfl) h0 light0 (fun n_ => (opens_struct Try.underlying26 (by exact (show Try.prog.cellsOf 26 = 4 by kernel_rfl)) (fun m_ hm_ => (opens_cons rfl (by exact (show Try.prog.cellsOf 24 = 1 by kernel_rfl)) (opens_int Try.underlying24) (opens_cons rfl (by exact (show Try.prog.cellsOf 4 = 1 by kernel_rfl)) (opens_bool Try.underlying4) (opens_cons rfl (by exact (show Try.prog.cellsOf 3 = 1 by kernel_rfl)) (opens_int Try.underlying3) (opens_one rfl (by exact (show Try.prog.cellsOf 3 = 1 by kernel_rfl)) (opens_int Try.underlying3))))))))
  obtain ⟨x0_0, x0_1, x0_2, x0_3⟩ := x0
  have hcs0 : cs0.toList = [.int .u32 x0_0, .bool x0_1, .int .i64 x0_2, .int .i64 x0_3] := by obtain ⟨q0, q1, hq, e0, e1⟩ := K0; obtain ⟨r0, s0, hq0, e0_0, e1_0⟩ := e1; obtain ⟨r1, s1, hq1, e0_1, e1_1⟩ := e1_0; simp_all [Kd.int, Kd.bool, Kd.string, Kd.scalar]
  obtain rfl : cs0 = #[.int .u32 x0_0, .bool x0_1, .int .i64 x0_2, .int .i64 x0_3] := by cases cs0; simp_all
  dsimp only at b0
  clear hA0 hval0 hsz0 hsz
  obtain ⟨k, hk⟩ := Pure.BitsParts (x0_0, x0_1, x0_2, x0_3) b0
  refine (lathelaw01_BitsParts.calls k x0_0 x0_1 x0_2 x0_3 true W  hk).mono fun e W' hh => ?_
  obtain ⟨he, bel0⟩ := hh
  have bel : Below W.heap.size W W' := bel0
  subst he
  exact ⟨_, rfl, _, _, _, [], _, [], hW', trodAll_mk1 (shut_bool Try.underlying4 _), (trodAll_cons_mk (Below.trod laidOut (by kernel_rfl) (of_decide_eq_true (by kernel_rfl)) k0_ bel lt0) trodAll_mk0), rfl, bel.frame _, fun h => by cases h⟩
theorem over : Rows.bitsPartsRow.holds Try.pinned (OpenSpec.ofChange Rows.bitsPartsSpec) :=
  OpenClaim.holds_of_wide 4 Try.f4 rfl rfl rfl rfl rfl rfl rfl ⟨rfl, rfl, rfl, rfl, rfl⟩ rfl rfl rfl rfl rfl (by kernel_rfl) Try.func4 (by kernel_rfl)
    (of_decide_eq_true (by kernel_rfl)) (by unfold Func.isWrapper; first | (rw [if_pos (by decide +kernel)]; kernel_rfl) | (rw [if_neg (by decide +kernel)]; exact ⟨rfl, rfl⟩))
    (fun os started H enc _ => lifted os started H enc)
theorem proved : Rows.BitsPartsSaid := over
#print axioms proved
end Go.Proofs.Ytjmhlmfiodhjhaa.bitsParts
namespace Go.Proofs.Ytjmhlmfiodhjhaa
/-- The row, under a short name, for the claim. -/
theorem bitsParts_holds : Rows.BitsPartsSaid := bitsParts.proved
end Go.Proofs.Ytjmhlmfiodhjhaa
