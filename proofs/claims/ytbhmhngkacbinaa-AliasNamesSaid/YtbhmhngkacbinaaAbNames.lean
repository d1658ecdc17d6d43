/- What the functions without arguments answer, worked out. No conditions. -/
import Derived.Test.YtbhmhngkacbinaaAbTab
import Derived.Test.YtbhmhngkacbinaaAbZ4
namespace Go.Proofs.Ytbhmhngkacbinaa.Tb
open Go.Ab Go.RowKit
set_option autoImplicit false
set_option maxRecDepth 100000
/-- The names. -/
def names : List PV := [.str [97, 100, 97, 98, 101, 108, 105, 101, 102], .str [97, 100, 97, 100, 101, 108, 116, 97], .str [97, 100, 97, 103, 114, 97, 100], .str [97, 100, 97, 109], .str [97, 100, 97, 109, 97, 120], .str [97, 100, 97, 109, 119], .str [97, 103, 99], .str [97, 109, 115, 103, 114, 97, 100], .str [108, 97, 109, 98], .str [108, 97, 114, 115], .str [108, 105, 111, 110], .str [110, 111, 118, 111, 103, 114, 97, 100], .str [111, 112, 116, 105, 109, 105, 115, 116, 105, 99], .str [114, 109, 115, 112, 114, 111, 112], .str [115, 99, 97, 108, 101, 95, 98, 121, 95, 108, 101, 97, 114, 110, 105, 110, 103, 95, 114, 97, 116, 101], .str [115, 103, 100], .str [121, 111, 103, 105]]
def isTrue : R1 → Bool
  | some (.p (.bool true), _, _) => true
  | _ => false
theorem isTrue_iff {r : R1} (h : isTrue r = true) : ∃ H lg, r = some (.p (.bool true), H, lg) := by
  unfold isTrue at h
  split at h
  · exact ⟨_, _, rfl⟩
  · cases h
theorem r24 : freshOf (acall EE 3000 24 [] []) = some (.pu ⟨1, false⟩ names) := by kernel_rfl
theorem r25 : freshOf (acall EE 3000 25 [] []) = some (.pu ⟨1, false⟩ names) := by kernel_rfl
theorem r12 : runZ (acall EE 3000) 12 [] [] = some (.p (.bool true), [], lg0) := by kernel_rfl
def tab : List (Nat × Kn) := [(24, .fresh ⟨1, false⟩ names), (25, .fresh ⟨1, false⟩ names), (12, .z (.p (.bool true)))]
theorem ok24 : Kn.ok (acall EE 3000) 24 (.fresh ⟨1, false⟩ names) := @Kn.ok_fresh (acall EE 3000) 24 ⟨1, false⟩ names r24
theorem ok25 : Kn.ok (acall EE 3000) 25 (.fresh ⟨1, false⟩ names) := @Kn.ok_fresh (acall EE 3000) 25 ⟨1, false⟩ names r25
theorem ok12 : Kn.ok (acall EE 3000) 12 (.z (.p (.bool true))) := @Kn.ok_z (acall EE 3000) 12 (.p (.bool true)) r12
theorem tab_ok : ∀ f k, (f, k) ∈ tab → Kn.ok (acall EE 3000) f k := @kn_cons (acall EE 3000) 24 _ _ ok24 (@kn_cons (acall EE 3000) 25 _ _ ok25 (@kn_cons (acall EE 3000) 12 _ _ ok12 (@kn_nil (acall EE 3000))))
theorem names_true : isTrue (acode.arun EE (acodeR EE (runKn tab) 3000) 10 [] []) = true := by kernel_rfl
theorem names_walk (w : World) : Calls Try.prog 10 #[] w fun e w' => e = .returned (.bool true) ∧ Below w.heap.size w w' := by
  obtain ⟨H, lg, h⟩ := isTrue_iff names_true
  obtain ⟨h1, h2⟩ := runKn_ok (run_ok 3000) tab_ok
  exact closed_true (arun_sound ty_ok fns_ok draw (acodeR_sound ty_ok fns_ok draw h1 h2 3000).1) h w
end Go.Proofs.Ytbhmhngkacbinaa.Tb
