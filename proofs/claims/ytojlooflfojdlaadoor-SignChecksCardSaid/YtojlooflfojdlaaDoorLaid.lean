/- What the rows of this seat list, as the condition on the world that the contracts ask for; and a world for the witness. Conditions: those that each theorem names. -/
import Derived.Test.YtojlooflfojdlaaDoorRows
import Derived.Test.YtojlooflfojdlaaDoorGlob
import Derived.Lay
import Derived.LaidHandle
import Derived.Stop.LaidErr
import Derived.Stop.Joined
import Derived.Deep.DeepHandedRow
import Derived.Deep.DeepWitnessRowRef
import Derived.Lib.LaidU8
import Derived.MakeChecks
import Derived.Shelf.Vars
import Derived.ProofKit
namespace Go.Proofs.YtojlooflfojdlaaDoor.Q
open Go.ChangeShapes Go.WideShapes Go.ChangeAt Go.RowKit
set_option linter.unusedVariables false
abbrev laidL : List (String × DataW Unit) := Rows.signReadsRow.laid
theorem star_ : "*" ++ "errors.errorString" = "*errors.errorString" := by decide
theorem row112 (u : TypeId) (h : Tryd.prog.typeName? 3 u = some "*errors.errorString") : u = 112 :=
  typeName_ptr_named (nm := "errors.errorString") (by rw [star_]; kernel_rfl) (by kernel_rfl) (by decide) u (by rw [star_]; exact h)
theorem u57_ : Tryd.prog.underlying 58 = some (.interface #[("Error", 62)]) := by kernel_rfl
theorem u100_ : Tryd.prog.underlying 100 = some (.array 20 86) := by kernel_rfl
theorem u86_ : Tryd.prog.underlying 86 = some (.int .u64) := by kernel_rfl
theorem u112_ : Tryd.prog.underlying 112 = some (.pointer 114) := by kernel_rfl
theorem u9_ : Tryd.prog.underlying 9 = some .string := by kernel_rfl
theorem f114_ : ∃ f : Field, Tryd.prog.underlying 114 = some (.struct #[f]) ∧ f.type = 9 ∧ f.offset = 0 := ⟨{ name := "s", type := 9, offset := 0, embedded := false, tag := "", pkgPath := "errors", byteOffset := 0 }, by kernel_rfl, rfl, rfl⟩
theorem gl_of {W : World} (h0 : laidMetH Tryd.prog laidL W) (hsh : W.ShapedOpen Tryd.prog) : Glob W := by
  rw [MakeChecks.laidMetH_plain _ _ _ (by kernel_rfl)] at h0
  obtain ⟨f, hf, hft, hfo⟩ := f114_
  have h2 := h0.tail.tail
  have h4 := h2.tail.tail
  have htab : Lib.TabIs Tryd.prog W "internal/strconv.uint64pow10" .u64 Lib.pow10Tab :=
    Lib.tabIs_of_head (g := 3) (t := 100) (e := 86) (n := 20) (by kernel_rfl) (by kernel_rfl) u100_ u86_ (by kernel_rfl) (by kernel_rfl) (show laidMet Tryd.prog (("internal/strconv.uint64pow10", Lib.tabData .u64 Lib.pow10Tab) :: _) W from h2)
  obtain ⟨a, s, hv, _, _, _⟩ := laid_sentinel (g := 2) h4 (by kernel_rfl) (by kernel_rfl) u57_ row112 u112_ hf hft hfo u9_ (by kernel_rfl) (by kernel_rfl)
  obtain ⟨a', s', hv', _, _, _⟩ := laid_sentinel (g := 1) h4.tail (by kernel_rfl) (by kernel_rfl) u57_ row112 u112_ hf hft hfo u9_ (by kernel_rfl) (by kernel_rfl)
  refine ⟨cell_of_shapedOpen_int (g := 0) (t := 3) (zero := #[.int .i64 0]) (k := .i64) hsh (of_decide_eq_true (by kernel_rfl)) (by kernel_rfl) rfl (by kernel_rfl) (by kernel_rfl) (by kernel_rfl), ⟨_, by simpa using World.var?_cell (g := 1) (by kernel_rfl) hv' 0, .inr ⟨_, _, rfl⟩⟩, ⟨_, by simpa using World.var?_cell (g := 2) (by kernel_rfl) hv 0, .inr ⟨_, _, rfl⟩⟩, htab⟩
noncomputable def laidW (os : Os) : World := World.laidAll Tryd.prog os laidL
theorem laid_met (os : Os) (args : Array Value) : laidMetH Tryd.prog laidL ((laidW os).forCall (fun _ _ => 0) ⟨#[], args, []⟩).memory := by
  rw [MakeChecks.laidMetH_plain _ _ _ (by kernel_rfl)]
  exact laidMet_laidAll _ (by kernel_rfl) (by kernel_rfl)
/-! ### the second form's bound -/
theorem bulk_pos {H : Type} (d : DataW H) : 1 ≤ Rows.uptoBulk d := by
  cases d with
  | lit l => cases l <;> simp [Rows.uptoBulk]
  | _ => simp [Rows.uptoBulk]
theorem bulk_len {H : Type} : ∀ l : List (DataW H), l.length ≤ Rows.uptoBulkAll l
  | [] => Nat.zero_le _
  | d :: l => by
    have h1 := bulk_pos d
    have h2 := bulk_len l
    rw [Rows.uptoBulkAll, List.length_cons]; omega
theorem bulk_list {H : Type} {enc : TypeId × Value → H} {P : Program} {w : World} {base : Nat} {spare : Nat → Bool} {held : Bool} {fuel : Nat} {t e : TypeId} {A : Option Addr} {n c : Nat} {d : DataW H} {p : List MemPlace} (ht : P.underlying t = some (.slice e)) (h : DataW.trod enc P w base spare held fuel t [.slice A n c] = some (d, p)) : n ≤ Rows.uptoBulk d := by
  rcases DataW.trod_slice ht h with ⟨e1, _⟩ | ⟨a, len, cap, elems, rest, m, _, e1, hx, _, _, _, hl, _⟩
  · simp only [List.cons.injEq, Value.slice.injEq] at e1
    omega
  · simp only [List.cons.injEq, Value.slice.injEq] at e1
    obtain ⟨rfl, _⟩ := Prod.mk.inj hx
    have := bulk_len (elems.map (·.1))
    rw [List.length_map] at this
    rw [Rows.uptoBulk]
    omega
end Go.Proofs.YtojlooflfojdlaaDoor.Q
