/- Lean functions with the answers of the Go functions that the law reaches, proved to be just these answers. Conditions: those that each theorem names. -/
import Derived.Test.YtbfomjbencbmlaaQx0
import Derived.Test.YtbfomjbencbmlaaQx1
import Derived.Test.YtbfomjbencbmlaaQx5
import Derived.Test.YtbfomjbencbmlaaQx6
import Derived.Test.YtbfomjbencbmlaaQx7
namespace Go.Proofs.Ytbfomjbencbmlaa.Q
open Go.RowKit Go.Proofs.YtbfomjbencbmlaaW.PrintWords Go.Proofs.YtbfomjbencbmlaaW.PrintLast Go.Proofs.YtbfomjbencbmlaaW.PrintMore
attribute [local go_sem] max2_int min2_int max_two min_two max_three min_three max_four min_four   -- for this text's walks alone
set_option linter.unusedVariables false
set_option linter.unusedSimpArgs false

/-- One operation that only reads, alone: by what is known of the world that it comes up in. -/
theorem own_one_ {P : Program} {ops : Array Oper} {Q : Exit → Act → World → Prop} {oi : Oper} {N : Option Tmp} {a : Act} {w : World} {K : Act → World → Prop} (v : Value) (hw : Region.wanted oi (yielded ops a.tmps) = true) (hN : oi.dst = N) (hrun : (execOp a.eval oi).run P w = .ok (.value v) w) {a' : Act} (ha : a.put N v = a')
  (h : K a' w) : if Region.wanted oi (yielded ops a.tmps) = true then Oper.wp P oi a w K Q else K (a.put N undef) w := by
 subst ha
 subst hN
 rw [if_pos hw]
 unfold Oper.wp
 rw [hrun, Oper.upon_value]
 exact h

/-! ### lathelaw07_sure: function 11 -/
def lathelaw07_sure.f (k : Nat)  : Option (Bool) := (lathelaw07_half.f).bind fun bt190 => ((tree_Find.f k bt190.1 bt190.2.1 bt190.2.2.1 bt190.2.2.2.1 bt190.2.2.2.2.1 bt190.2.2.2.2.2.1 bt190.2.2.2.2.2.2 (([0, 0] : List Int))).bind fun bt202 => ((lathelaw07_half.f).bind fun bt213 => ((tree_Names.f k bt213.1 bt213.2.1 bt213.2.2.1 bt213.2.2.2.1 bt213.2.2.2.2.1 bt213.2.2.2.2.2.1 bt213.2.2.2.2.2.2).bind fun t222 => ((lathelaw07_half.f).bind fun bt225 => ((lathelaw07_half.f).bind fun bt235 => ((tree_Check.f k bt235.1 bt235.2.1 bt235.2.2.1 bt235.2.2.2.1 bt235.2.2.2.2.1 bt235.2.2.2.2.2.1 bt235.2.2.2.2.2.2).bind fun t244 => (if t244 = 0 then ((tree_Check.f k bt225.1 (⟨#[67, 104, 97, 105, 110]⟩ : ByteArray) bt225.2.2.1 bt225.2.2.2.1 bt225.2.2.2.2.1 bt225.2.2.2.2.2.1 bt225.2.2.2.2.2.2).bind fun t245 => (if t245 = 70 then ((lathelaw07_half.f).bind fun bt246 => ((tree_Count.f k bt246.1 bt246.2.1 bt246.2.2.1 bt246.2.2.2.1 bt246.2.2.2.2.1 bt246.2.2.2.2.2.1 bt246.2.2.2.2.2.2).bind fun t255 => (if t255 = 4 then ((lathelaw07_half.f).bind fun bt256 => ((tree_Depth.f k bt256.1 bt256.2.1 bt256.2.2.1 bt256.2.2.2.1 bt256.2.2.2.2.1 bt256.2.2.2.2.2.1 bt256.2.2.2.2.2.2).bind fun t265 => (if t265 = 3 then (if bt202.2.2.2.2.2.2.2 = true then (if bt202.2.2.1 = 1056964608 then (if bt202.2.2.2.2.2.2.1 = 12 then (if (t222.length : Int) = 3 then (if 1 < (t222.length : Int) then (if (rdOf ByteArray.empty t222 1).toList = ([115, 99, 97, 108, 101] : List UInt8) then ((lathelaw07_half.f).bind fun bt267 => ((tree_Equal.f k bt267.1 bt267.2.1 bt267.2.2.1 bt267.2.2.2.1 bt267.2.2.2.2.1 bt267.2.2.2.2.2.1 bt267.2.2.2.2.2.2 bt225.1 (⟨#[67, 104, 97, 105, 110]⟩ : ByteArray) bt225.2.2.1 bt225.2.2.2.1 bt225.2.2.2.2.1 bt225.2.2.2.2.2.1 bt225.2.2.2.2.2.2).bind fun t276 => (if t276 = true then (none) else ((lathelaw07_half.f).bind fun bt277 => ((tree_Strip.f k bt277.1 bt277.2.1 bt277.2.2.1 bt277.2.2.2.1 bt277.2.2.2.2.1 bt277.2.2.2.2.2.1 bt277.2.2.2.2.2.2).bind fun bt286 => (if 0 < (bt286.2.2.2.2.2.1.length : Int) then (some (((rd_T26 bt286.2.2.2.2.2.1 0).f6) == 0)) else (none))))))) else (none)) else (none)) else (none)) else (none)) else (none)) else (none)) else (none)))) else (none)))) else (none))) else (none))))))))
theorem lathelaw07_sure.mono : ∀ k, LeO (lathelaw07_sure.f k ) (lathelaw07_sure.f (k + 1) ) := by
 intro  k
 unfold lathelaw07_sure.f
 repeat' first
   | (with_reducible exact tree_Check.mono _ _ _ _ _ _ _ _)
   | (with_reducible exact tree_Count.mono _ _ _ _ _ _ _ _)
   | (with_reducible exact tree_Depth.mono _ _ _ _ _ _ _ _)
   | (with_reducible exact tree_Equal.mono _ _ _ _ _ _ _ _ _ _ _ _ _ _ _)
   | (with_reducible exact tree_Find.mono _ _ _ _ _ _ _ _ _)
   | (with_reducible exact tree_Names.mono _ _ _ _ _ _ _ _)
   | (with_reducible exact tree_Strip.mono _ _ _ _ _ _ _ _)
   | (with_reducible exact LeO.refl _)
   | (with_reducible exact LeO.none _)
   | (with_reducible refine LeO.ite ?_ ?_)
   | (with_reducible refine LeO.bind ?_ (fun _ => ?_))
   | exact LeO.none _
   | refine LeO.ite ?_ ?_
   | refine LeO.bind ?_ (fun _ => ?_)
def lathelaw07_sure.T5 : Bool × List (List Nat × List Nat) := (true, [([], []), ([0, 0], [0]), ([1], [1]), ([2, 1], [2]), ([3], [3]), ([4, 3, 3], [3, 4]), ([5, 3], [3, 5]), ([3, 6], [3, 6]), ([7, 5], [7]), ([8, 8], [8]), ([9, 9, 8], [8, 9]), ([10, 8], [8, 10]), ([8, 11], [8, 11]), ([12, 10], [12]), ([13, 13], [13]), ([14, 14, 13], [13, 14]), ([15, 13], [13, 15]), ([13, 16], [13, 16]), ([17, 15], [17]), ([18], [18]), ([18, 19], [18, 19]), ([20, 18], [20]), ([21], [21]), ([22, 21], [21, 22]), ([23, 21], [21, 23]), ([21, 24], [21, 24]), ([25, 21], [25]), ([26], [26]), ([27, 26], [26, 27]), ([28, 26], [26, 28]), ([26, 29], [26, 29]), ([30, 26], [30]), ([31], [31]), ([32, 31], [31, 32]), ([33, 31], [31, 33]), ([31, 34], [31, 34]), ([35, 31], [35]), ([36], [36]), ([37, 36], [36, 37]), ([38, 36], [36, 38]), ([39, 36], [36, 39]), ([36, 40], [36, 40]), ([41, 36], [41]), ([42, 42], [42]), ([42], [42]), ([43, 44, 43, 42], [42, 43, 44]), ([45, 42], [42, 45]), ([42, 46], [42, 46]), ([47, 45], [47]), ([48, 48], [48]), ([49, 49, 48], [48, 49]), ([50, 48], [48, 50]), ([51, 48], [48, 51]), ([52, 48], [48, 52]), ([53, 48], [48, 53]), ([54, 48], [48, 54]), ([48, 55], [48, 55]), ([56, 50, 0, 1, 2, 3, 4, 5, 6, 7, 8, 9, 10, 11, 12, 13, 14, 15, 16, 17, 18, 19, 20, 21, 22, 23, 24, 25, 26, 27, 28, 29, 30, 31, 32, 33, 34, 35, 36, 37, 38, 39, 40, 41, 42, 43, 44, 45, 46, 47, 48, 49, 50, 51, 52, 53, 54, 55, 56], [56])])
def lathelaw07_sure.B5 : List Nat := [0, 1, 3, 7, 15, 31, 63, 127, 255, 511, 1023, 2047, 4095, 8191, 16383, 32767, 65535, 131071, 262143, 524287, 1048575, 2097151, 4194303, 8388607, 16777215, 33554431, 67108863, 134217727, 268435455, 536870911, 1073741823, 2147483647, 4294967295, 8589934591, 17179869183, 34359738367, 68719476735, 137438953471, 274877906943, 549755813887, 1099511627775, 2199023255551, 4398046511103, 8796093022207, 8796093022207, 35184372088831, 70368744177663, 140737488355327, 281474976710655, 562949953421311, 1125899906842623, 2251799813685247, 4503599627370495, 9007199254740991, 18014398509481983, 36028797018963967, 72057594037927935, 144115188075855871]
theorem lathelaw07_sure.tab5 : rtab .any (opsOf Try.f11 5) = lathelaw07_sure.T5 := by kernel_rfl
theorem lathelaw07_sure.bits5 : waitsOk lathelaw07_sure.T5.2 lathelaw07_sure.B5 = true := by kernel_rfl
set_option maxHeartbeats 8000000 in
set_option maxRecDepth 100000 in
theorem lathelaw07_sure.calls (k : Nat)  (r : Bool) (w : World) (h : lathelaw07_sure.f k  = some r) :
  Calls Try.prog 11 #[] w fun e w' => e = .returned (.bool r) ∧ Below w.heap.size w w' := by
 have hu26 := Try.underlying26
 have HB := Aside0.mk (Below.refl w.heap.size w)
 have H : ((lathelaw07_half.f).bind fun bt190 => ((tree_Find.f k bt190.1 bt190.2.1 bt190.2.2.1 bt190.2.2.2.1 bt190.2.2.2.2.1 bt190.2.2.2.2.2.1 bt190.2.2.2.2.2.2 (([0, 0] : List Int))).bind fun bt202 => ((lathelaw07_half.f).bind fun bt213 => ((tree_Names.f k bt213.1 bt213.2.1 bt213.2.2.1 bt213.2.2.2.1 bt213.2.2.2.2.1 bt213.2.2.2.2.2.1 bt213.2.2.2.2.2.2).bind fun t222 => ((lathelaw07_half.f).bind fun bt225 => ((lathelaw07_half.f).bind fun bt235 => ((tree_Check.f k bt235.1 bt235.2.1 bt235.2.2.1 bt235.2.2.2.1 bt235.2.2.2.2.1 bt235.2.2.2.2.2.1 bt235.2.2.2.2.2.2).bind fun t244 => (if t244 = 0 then ((tree_Check.f k bt225.1 (⟨#[67, 104, 97, 105, 110]⟩ : ByteArray) bt225.2.2.1 bt225.2.2.2.1 bt225.2.2.2.2.1 bt225.2.2.2.2.2.1 bt225.2.2.2.2.2.2).bind fun t245 => (if t245 = 70 then ((lathelaw07_half.f).bind fun bt246 => ((tree_Count.f k bt246.1 bt246.2.1 bt246.2.2.1 bt246.2.2.2.1 bt246.2.2.2.2.1 bt246.2.2.2.2.2.1 bt246.2.2.2.2.2.2).bind fun t255 => (if t255 = 4 then ((lathelaw07_half.f).bind fun bt256 => ((tree_Depth.f k bt256.1 bt256.2.1 bt256.2.2.1 bt256.2.2.2.1 bt256.2.2.2.2.1 bt256.2.2.2.2.2.1 bt256.2.2.2.2.2.2).bind fun t265 => (if t265 = 3 then (if bt202.2.2.2.2.2.2.2 = true then (if bt202.2.2.1 = 1056964608 then (if bt202.2.2.2.2.2.2.1 = 12 then (if (t222.length : Int) = 3 then (if 1 < (t222.length : Int) then (if (rdOf ByteArray.empty t222 1).toList = ([115, 99, 97, 108, 101] : List UInt8) then ((lathelaw07_half.f).bind fun bt267 => ((tree_Equal.f k bt267.1 bt267.2.1 bt267.2.2.1 bt267.2.2.2.1 bt267.2.2.2.2.1 bt267.2.2.2.2.2.1 bt267.2.2.2.2.2.2 bt225.1 (⟨#[67, 104, 97, 105, 110]⟩ : ByteArray) bt225.2.2.1 bt225.2.2.2.1 bt225.2.2.2.2.1 bt225.2.2.2.2.2.1 bt225.2.2.2.2.2.2).bind fun t276 => (if t276 = true then (none) else ((lathelaw07_half.f).bind fun bt277 => ((tree_Strip.f k bt277.1 bt277.2.1 bt277.2.2.1 bt277.2.2.2.1 bt277.2.2.2.2.1 bt277.2.2.2.2.2.1 bt277.2.2.2.2.2.2).bind fun bt286 => (if 0 < (bt286.2.2.2.2.2.1.length : Int) then (some (((rd_T26 bt286.2.2.2.2.2.1 0).f6) == 0)) else (none))))))) else (none)) else (none)) else (none)) else (none)) else (none)) else (none)) else (none)))) else (none)))) else (none))) else (none))))))))) = some r := h
 clear h
 replace H := Option.bind_eq_some_iff.mp H
 obtain ⟨⟨t190, t191, t192, t193, t194, t195, t198⟩, A10, H⟩ := H
 replace H : ((tree_Find.f k t190 t191 t192 t193 t194 t195 t198 (([0, 0] : List Int))).bind fun bt202 => ((lathelaw07_half.f).bind fun bt213 => ((tree_Names.f k bt213.1 bt213.2.1 bt213.2.2.1 bt213.2.2.2.1 bt213.2.2.2.2.1 bt213.2.2.2.2.2.1 bt213.2.2.2.2.2.2).bind fun t222 => ((lathelaw07_half.f).bind fun bt225 => ((lathelaw07_half.f).bind fun bt235 => ((tree_Check.f k bt235.1 bt235.2.1 bt235.2.2.1 bt235.2.2.2.1 bt235.2.2.2.2.1 bt235.2.2.2.2.2.1 bt235.2.2.2.2.2.2).bind fun t244 => (if t244 = 0 then ((tree_Check.f k bt225.1 (⟨#[67, 104, 97, 105, 110]⟩ : ByteArray) bt225.2.2.1 bt225.2.2.2.1 bt225.2.2.2.2.1 bt225.2.2.2.2.2.1 bt225.2.2.2.2.2.2).bind fun t245 => (if t245 = 70 then ((lathelaw07_half.f).bind fun bt246 => ((tree_Count.f k bt246.1 bt246.2.1 bt246.2.2.1 bt246.2.2.2.1 bt246.2.2.2.2.1 bt246.2.2.2.2.2.1 bt246.2.2.2.2.2.2).bind fun t255 => (if t255 = 4 then ((lathelaw07_half.f).bind fun bt256 => ((tree_Depth.f k bt256.1 bt256.2.1 bt256.2.2.1 bt256.2.2.2.1 bt256.2.2.2.2.1 bt256.2.2.2.2.2.1 bt256.2.2.2.2.2.2).bind fun t265 => (if t265 = 3 then (if bt202.2.2.2.2.2.2.2 = true then (if bt202.2.2.1 = 1056964608 then (if bt202.2.2.2.2.2.2.1 = 12 then (if (t222.length : Int) = 3 then (if 1 < (t222.length : Int) then (if (rdOf ByteArray.empty t222 1).toList = ([115, 99, 97, 108, 101] : List UInt8) then ((lathelaw07_half.f).bind fun bt267 => ((tree_Equal.f k bt267.1 bt267.2.1 bt267.2.2.1 bt267.2.2.2.1 bt267.2.2.2.2.1 bt267.2.2.2.2.2.1 bt267.2.2.2.2.2.2 bt225.1 (⟨#[67, 104, 97, 105, 110]⟩ : ByteArray) bt225.2.2.1 bt225.2.2.2.1 bt225.2.2.2.2.1 bt225.2.2.2.2.2.1 bt225.2.2.2.2.2.2).bind fun t276 => (if t276 = true then (none) else ((lathelaw07_half.f).bind fun bt277 => ((tree_Strip.f k bt277.1 bt277.2.1 bt277.2.2.1 bt277.2.2.2.1 bt277.2.2.2.2.1 bt277.2.2.2.2.2.1 bt277.2.2.2.2.2.2).bind fun bt286 => (if 0 < (bt286.2.2.2.2.2.1.length : Int) then (some (((rd_T26 bt286.2.2.2.2.2.1 0).f6) == 0)) else (none))))))) else (none)) else (none)) else (none)) else (none)) else (none)) else (none)) else (none)))) else (none)))) else (none))) else (none)))))))) = some r := H
 have A1 := Aside0.mk A10
 clear A10
 obtain ⟨y199, hy199⟩ : ∃ y_ : List Int, y_ = (([0, 0] : List Int)) := ⟨_, rfl⟩
 replace H : ((tree_Find.f k t190 t191 t192 t193 t194 t195 t198 y199).bind fun bt202 => ((lathelaw07_half.f).bind fun bt213 => ((tree_Names.f k bt213.1 bt213.2.1 bt213.2.2.1 bt213.2.2.2.1 bt213.2.2.2.2.1 bt213.2.2.2.2.2.1 bt213.2.2.2.2.2.2).bind fun t222 => ((lathelaw07_half.f).bind fun bt225 => ((lathelaw07_half.f).bind fun bt235 => ((tree_Check.f k bt235.1 bt235.2.1 bt235.2.2.1 bt235.2.2.2.1 bt235.2.2.2.2.1 bt235.2.2.2.2.2.1 bt235.2.2.2.2.2.2).bind fun t244 => (if t244 = 0 then ((tree_Check.f k bt225.1 (⟨#[67, 104, 97, 105, 110]⟩ : ByteArray) bt225.2.2.1 bt225.2.2.2.1 bt225.2.2.2.2.1 bt225.2.2.2.2.2.1 bt225.2.2.2.2.2.2).bind fun t245 => (if t245 = 70 then ((lathelaw07_half.f).bind fun bt246 => ((tree_Count.f k bt246.1 bt246.2.1 bt246.2.2.1 bt246.2.2.2.1 bt246.2.2.2.2.1 bt246.2.2.2.2.2.1 bt246.2.2.2.2.2.2).bind fun t255 => (if t255 = 4 then ((lathelaw07_half.f).bind fun bt256 => ((tree_Depth.f k bt256.1 bt256.2.1 bt256.2.2.1 bt256.2.2.2.1 bt256.2.2.2.2.1 bt256.2.2.2.2.2.1 bt256.2.2.2.2.2.2).bind fun t265 => (if t265 = 3 then (if bt202.2.2.2.2.2.2.2 = true then (if bt202.2.2.1 = 1056964608 then (if bt202.2.2.2.2.2.2.1 = 12 then (if (t222.length : Int) = 3 then (if 1 < (t222.length : Int) then (if (rdOf ByteArray.empty t222 1).toList = ([115, 99, 97, 108, 101] : List UInt8) then ((lathelaw07_half.f).bind fun bt267 => ((tree_Equal.f k bt267.1 bt267.2.1 bt267.2.2.1 bt267.2.2.2.1 bt267.2.2.2.2.1 bt267.2.2.2.2.2.1 bt267.2.2.2.2.2.2 bt225.1 (⟨#[67, 104, 97, 105, 110]⟩ : ByteArray) bt225.2.2.1 bt225.2.2.2.1 bt225.2.2.2.2.1 bt225.2.2.2.2.2.1 bt225.2.2.2.2.2.2).bind fun t276 => (if t276 = true then (none) else ((lathelaw07_half.f).bind fun bt277 => ((tree_Strip.f k bt277.1 bt277.2.1 bt277.2.2.1 bt277.2.2.2.1 bt277.2.2.2.2.1 bt277.2.2.2.2.2.1 bt277.2.2.2.2.2.2).bind fun bt286 => (if 0 < (bt286.2.2.2.2.2.1.length : Int) then (some (((rd_T26 bt286.2.2.2.2.2.1 0).f6) == 0)) else (none))))))) else (none)) else (none)) else (none)) else (none)) else (none)) else (none)) else (none)))) else (none)))) else (none))) else (none)))))))) = some r := by first | (rw [hy199]; with_reducible exact H) | (have H2_ := (Option.bind_some _ _).symm.trans H; rw [hy199]; with_reducible exact H2_) | (have H2_ := (Option.bind_some _ _).symm.trans H; with_reducible exact H2_) | with_reducible exact H | (rw [hy199]; exact H) | exact H
 have Ny199 := Aside0.mk hy199
 clear hy199
 replace H := Option.bind_eq_some_iff.mp H
 obtain ⟨⟨t202, t203, t204, t205, t206, t207, t210, t211⟩, A20, H⟩ := H
 replace H : ((lathelaw07_half.f).bind fun bt213 => ((tree_Names.f k bt213.1 bt213.2.1 bt213.2.2.1 bt213.2.2.2.1 bt213.2.2.2.2.1 bt213.2.2.2.2.2.1 bt213.2.2.2.2.2.2).bind fun t222 => ((lathelaw07_half.f).bind fun bt225 => ((lathelaw07_half.f).bind fun bt235 => ((tree_Check.f k bt235.1 bt235.2.1 bt235.2.2.1 bt235.2.2.2.1 bt235.2.2.2.2.1 bt235.2.2.2.2.2.1 bt235.2.2.2.2.2.2).bind fun t244 => (if t244 = 0 then ((tree_Check.f k bt225.1 (⟨#[67, 104, 97, 105, 110]⟩ : ByteArray) bt225.2.2.1 bt225.2.2.2.1 bt225.2.2.2.2.1 bt225.2.2.2.2.2.1 bt225.2.2.2.2.2.2).bind fun t245 => (if t245 = 70 then ((lathelaw07_half.f).bind fun bt246 => ((tree_Count.f k bt246.1 bt246.2.1 bt246.2.2.1 bt246.2.2.2.1 bt246.2.2.2.2.1 bt246.2.2.2.2.2.1 bt246.2.2.2.2.2.2).bind fun t255 => (if t255 = 4 then ((lathelaw07_half.f).bind fun bt256 => ((tree_Depth.f k bt256.1 bt256.2.1 bt256.2.2.1 bt256.2.2.2.1 bt256.2.2.2.2.1 bt256.2.2.2.2.2.1 bt256.2.2.2.2.2.2).bind fun t265 => (if t265 = 3 then (if t211 = true then (if t204 = 1056964608 then (if t210 = 12 then (if (t222.length : Int) = 3 then (if 1 < (t222.length : Int) then (if (rdOf ByteArray.empty t222 1).toList = ([115, 99, 97, 108, 101] : List UInt8) then ((lathelaw07_half.f).bind fun bt267 => ((tree_Equal.f k bt267.1 bt267.2.1 bt267.2.2.1 bt267.2.2.2.1 bt267.2.2.2.2.1 bt267.2.2.2.2.2.1 bt267.2.2.2.2.2.2 bt225.1 (⟨#[67, 104, 97, 105, 110]⟩ : ByteArray) bt225.2.2.1 bt225.2.2.2.1 bt225.2.2.2.2.1 bt225.2.2.2.2.2.1 bt225.2.2.2.2.2.2).bind fun t276 => (if t276 = true then (none) else ((lathelaw07_half.f).bind fun bt277 => ((tree_Strip.f k bt277.1 bt277.2.1 bt277.2.2.1 bt277.2.2.2.1 bt277.2.2.2.2.1 bt277.2.2.2.2.2.1 bt277.2.2.2.2.2.2).bind fun bt286 => (if 0 < (bt286.2.2.2.2.2.1.length : Int) then (some (((rd_T26 bt286.2.2.2.2.2.1 0).f6) == 0)) else (none))))))) else (none)) else (none)) else (none)) else (none)) else (none)) else (none)) else (none)))) else (none)))) else (none))) else (none))))))) = some r := H
 have A2 := Aside0.mk A20
 clear A20
 replace H := Option.bind_eq_some_iff.mp H
 obtain ⟨⟨t213, t214, t215, t216, t217, t218, t221⟩, A30, H⟩ := H
 replace H : ((tree_Names.f k t213 t214 t215 t216 t217 t218 t221).bind fun t222 => ((lathelaw07_half.f).bind fun bt225 => ((lathelaw07_half.f).bind fun bt235 => ((tree_Check.f k bt235.1 bt235.2.1 bt235.2.2.1 bt235.2.2.2.1 bt235.2.2.2.2.1 bt235.2.2.2.2.2.1 bt235.2.2.2.2.2.2).bind fun t244 => (if t244 = 0 then ((tree_Check.f k bt225.1 (⟨#[67, 104, 97, 105, 110]⟩ : ByteArray) bt225.2.2.1 bt225.2.2.2.1 bt225.2.2.2.2.1 bt225.2.2.2.2.2.1 bt225.2.2.2.2.2.2).bind fun t245 => (if t245 = 70 then ((lathelaw07_half.f).bind fun bt246 => ((tree_Count.f k bt246.1 bt246.2.1 bt246.2.2.1 bt246.2.2.2.1 bt246.2.2.2.2.1 bt246.2.2.2.2.2.1 bt246.2.2.2.2.2.2).bind fun t255 => (if t255 = 4 then ((lathelaw07_half.f).bind fun bt256 => ((tree_Depth.f k bt256.1 bt256.2.1 bt256.2.2.1 bt256.2.2.2.1 bt256.2.2.2.2.1 bt256.2.2.2.2.2.1 bt256.2.2.2.2.2.2).bind fun t265 => (if t265 = 3 then (if t211 = true then (if t204 = 1056964608 then (if t210 = 12 then (if (t222.length : Int) = 3 then (if 1 < (t222.length : Int) then (if (rdOf ByteArray.empty t222 1).toList = ([115, 99, 97, 108, 101] : List UInt8) then ((lathelaw07_half.f).bind fun bt267 => ((tree_Equal.f k bt267.1 bt267.2.1 bt267.2.2.1 bt267.2.2.2.1 bt267.2.2.2.2.1 bt267.2.2.2.2.2.1 bt267.2.2.2.2.2.2 bt225.1 (⟨#[67, 104, 97, 105, 110]⟩ : ByteArray) bt225.2.2.1 bt225.2.2.2.1 bt225.2.2.2.2.1 bt225.2.2.2.2.2.1 bt225.2.2.2.2.2.2).bind fun t276 => (if t276 = true then (none) else ((lathelaw07_half.f).bind fun bt277 => ((tree_Strip.f k bt277.1 bt277.2.1 bt277.2.2.1 bt277.2.2.2.1 bt277.2.2.2.2.1 bt277.2.2.2.2.2.1 bt277.2.2.2.2.2.2).bind fun bt286 => (if 0 < (bt286.2.2.2.2.2.1.length : Int) then (some (((rd_T26 bt286.2.2.2.2.2.1 0).f6) == 0)) else (none))))))) else (none)) else (none)) else (none)) else (none)) else (none)) else (none)) else (none)))) else (none)))) else (none))) else (none)))))) = some r := H
 have A3 := Aside0.mk A30
 clear A30
 replace H := Option.bind_eq_some_iff.mp H
 obtain ⟨t222, A40, H⟩ := H
 replace H : ((lathelaw07_half.f).bind fun bt225 => ((lathelaw07_half.f).bind fun bt235 => ((tree_Check.f k bt235.1 bt235.2.1 bt235.2.2.1 bt235.2.2.2.1 bt235.2.2.2.2.1 bt235.2.2.2.2.2.1 bt235.2.2.2.2.2.2).bind fun t244 => (if t244 = 0 then ((tree_Check.f k bt225.1 (⟨#[67, 104, 97, 105, 110]⟩ : ByteArray) bt225.2.2.1 bt225.2.2.2.1 bt225.2.2.2.2.1 bt225.2.2.2.2.2.1 bt225.2.2.2.2.2.2).bind fun t245 => (if t245 = 70 then ((lathelaw07_half.f).bind fun bt246 => ((tree_Count.f k bt246.1 bt246.2.1 bt246.2.2.1 bt246.2.2.2.1 bt246.2.2.2.2.1 bt246.2.2.2.2.2.1 bt246.2.2.2.2.2.2).bind fun t255 => (if t255 = 4 then ((lathelaw07_half.f).bind fun bt256 => ((tree_Depth.f k bt256.1 bt256.2.1 bt256.2.2.1 bt256.2.2.2.1 bt256.2.2.2.2.1 bt256.2.2.2.2.2.1 bt256.2.2.2.2.2.2).bind fun t265 => (if t265 = 3 then (if t211 = true then (if t204 = 1056964608 then (if t210 = 12 then (if (t222.length : Int) = 3 then (if 1 < (t222.length : Int) then (if (rdOf ByteArray.empty t222 1).toList = ([115, 99, 97, 108, 101] : List UInt8) then ((lathelaw07_half.f).bind fun bt267 => ((tree_Equal.f k bt267.1 bt267.2.1 bt267.2.2.1 bt267.2.2.2.1 bt267.2.2.2.2.1 bt267.2.2.2.2.2.1 bt267.2.2.2.2.2.2 bt225.1 (⟨#[67, 104, 97, 105, 110]⟩ : ByteArray) bt225.2.2.1 bt225.2.2.2.1 bt225.2.2.2.2.1 bt225.2.2.2.2.2.1 bt225.2.2.2.2.2.2).bind fun t276 => (if t276 = true then (none) else ((lathelaw07_half.f).bind fun bt277 => ((tree_Strip.f k bt277.1 bt277.2.1 bt277.2.2.1 bt277.2.2.2.1 bt277.2.2.2.2.1 bt277.2.2.2.2.2.1 bt277.2.2.2.2.2.2).bind fun bt286 => (if 0 < (bt286.2.2.2.2.2.1.length : Int) then (some (((rd_T26 bt286.2.2.2.2.2.1 0).f6) == 0)) else (none))))))) else (none)) else (none)) else (none)) else (none)) else (none)) else (none)) else (none)))) else (none)))) else (none))) else (none))))) = some r := H
 have A4 := Aside0.mk A40
 clear A40
 replace H := Option.bind_eq_some_iff.mp H
 obtain ⟨⟨t225, t226, t227, t228, t229, t230, t233⟩, A50, H⟩ := H
 replace H : ((lathelaw07_half.f).bind fun bt235 => ((tree_Check.f k bt235.1 bt235.2.1 bt235.2.2.1 bt235.2.2.2.1 bt235.2.2.2.2.1 bt235.2.2.2.2.2.1 bt235.2.2.2.2.2.2).bind fun t244 => (if t244 = 0 then ((tree_Check.f k t225 (⟨#[67, 104, 97, 105, 110]⟩ : ByteArray) t227 t228 t229 t230 t233).bind fun t245 => (if t245 = 70 then ((lathelaw07_half.f).bind fun bt246 => ((tree_Count.f k bt246.1 bt246.2.1 bt246.2.2.1 bt246.2.2.2.1 bt246.2.2.2.2.1 bt246.2.2.2.2.2.1 bt246.2.2.2.2.2.2).bind fun t255 => (if t255 = 4 then ((lathelaw07_half.f).bind fun bt256 => ((tree_Depth.f k bt256.1 bt256.2.1 bt256.2.2.1 bt256.2.2.2.1 bt256.2.2.2.2.1 bt256.2.2.2.2.2.1 bt256.2.2.2.2.2.2).bind fun t265 => (if t265 = 3 then (if t211 = true then (if t204 = 1056964608 then (if t210 = 12 then (if (t222.length : Int) = 3 then (if 1 < (t222.length : Int) then (if (rdOf ByteArray.empty t222 1).toList = ([115, 99, 97, 108, 101] : List UInt8) then ((lathelaw07_half.f).bind fun bt267 => ((tree_Equal.f k bt267.1 bt267.2.1 bt267.2.2.1 bt267.2.2.2.1 bt267.2.2.2.2.1 bt267.2.2.2.2.2.1 bt267.2.2.2.2.2.2 t225 (⟨#[67, 104, 97, 105, 110]⟩ : ByteArray) t227 t228 t229 t230 t233).bind fun t276 => (if t276 = true then (none) else ((lathelaw07_half.f).bind fun bt277 => ((tree_Strip.f k bt277.1 bt277.2.1 bt277.2.2.1 bt277.2.2.2.1 bt277.2.2.2.2.1 bt277.2.2.2.2.2.1 bt277.2.2.2.2.2.2).bind fun bt286 => (if 0 < (bt286.2.2.2.2.2.1.length : Int) then (some (((rd_T26 bt286.2.2.2.2.2.1 0).f6) == 0)) else (none))))))) else (none)) else (none)) else (none)) else (none)) else (none)) else (none)) else (none)))) else (none)))) else (none))) else (none)))) = some r := H
 have A5 := Aside0.mk A50
 clear A50
 replace H := Option.bind_eq_some_iff.mp H
 obtain ⟨⟨t235, t236, t237, t238, t239, t240, t243⟩, A60, H⟩ := H
 replace H : ((tree_Check.f k t235 t236 t237 t238 t239 t240 t243).bind fun t244 => (if t244 = 0 then ((tree_Check.f k t225 (⟨#[67, 104, 97, 105, 110]⟩ : ByteArray) t227 t228 t229 t230 t233).bind fun t245 => (if t245 = 70 then ((lathelaw07_half.f).bind fun bt246 => ((tree_Count.f k bt246.1 bt246.2.1 bt246.2.2.1 bt246.2.2.2.1 bt246.2.2.2.2.1 bt246.2.2.2.2.2.1 bt246.2.2.2.2.2.2).bind fun t255 => (if t255 = 4 then ((lathelaw07_half.f).bind fun bt256 => ((tree_Depth.f k bt256.1 bt256.2.1 bt256.2.2.1 bt256.2.2.2.1 bt256.2.2.2.2.1 bt256.2.2.2.2.2.1 bt256.2.2.2.2.2.2).bind fun t265 => (if t265 = 3 then (if t211 = true then (if t204 = 1056964608 then (if t210 = 12 then (if (t222.length : Int) = 3 then (if 1 < (t222.length : Int) then (if (rdOf ByteArray.empty t222 1).toList = ([115, 99, 97, 108, 101] : List UInt8) then ((lathelaw07_half.f).bind fun bt267 => ((tree_Equal.f k bt267.1 bt267.2.1 bt267.2.2.1 bt267.2.2.2.1 bt267.2.2.2.2.1 bt267.2.2.2.2.2.1 bt267.2.2.2.2.2.2 t225 (⟨#[67, 104, 97, 105, 110]⟩ : ByteArray) t227 t228 t229 t230 t233).bind fun t276 => (if t276 = true then (none) else ((lathelaw07_half.f).bind fun bt277 => ((tree_Strip.f k bt277.1 bt277.2.1 bt277.2.2.1 bt277.2.2.2.1 bt277.2.2.2.2.1 bt277.2.2.2.2.2.1 bt277.2.2.2.2.2.2).bind fun bt286 => (if 0 < (bt286.2.2.2.2.2.1.length : Int) then (some (((rd_T26 bt286.2.2.2.2.2.1 0).f6) == 0)) else (none))))))) else (none)) else (none)) else (none)) else (none)) else (none)) else (none)) else (none)))) else (none)))) else (none))) else (none))) = some r := H
 have A6 := Aside0.mk A60
 clear A60
 replace H := Option.bind_eq_some_iff.mp H
 obtain ⟨t244, A70, H⟩ := H
 replace H : (if t244 = 0 then ((tree_Check.f k t225 (⟨#[67, 104, 97, 105, 110]⟩ : ByteArray) t227 t228 t229 t230 t233).bind fun t245 => (if t245 = 70 then ((lathelaw07_half.f).bind fun bt246 => ((tree_Count.f k bt246.1 bt246.2.1 bt246.2.2.1 bt246.2.2.2.1 bt246.2.2.2.2.1 bt246.2.2.2.2.2.1 bt246.2.2.2.2.2.2).bind fun t255 => (if t255 = 4 then ((lathelaw07_half.f).bind fun bt256 => ((tree_Depth.f k bt256.1 bt256.2.1 bt256.2.2.1 bt256.2.2.2.1 bt256.2.2.2.2.1 bt256.2.2.2.2.2.1 bt256.2.2.2.2.2.2).bind fun t265 => (if t265 = 3 then (if t211 = true then (if t204 = 1056964608 then (if t210 = 12 then (if (t222.length : Int) = 3 then (if 1 < (t222.length : Int) then (if (rdOf ByteArray.empty t222 1).toList = ([115, 99, 97, 108, 101] : List UInt8) then ((lathelaw07_half.f).bind fun bt267 => ((tree_Equal.f k bt267.1 bt267.2.1 bt267.2.2.1 bt267.2.2.2.1 bt267.2.2.2.2.1 bt267.2.2.2.2.2.1 bt267.2.2.2.2.2.2 t225 (⟨#[67, 104, 97, 105, 110]⟩ : ByteArray) t227 t228 t229 t230 t233).bind fun t276 => (if t276 = true then (none) else ((lathelaw07_half.f).bind fun bt277 => ((tree_Strip.f k bt277.1 bt277.2.1 bt277.2.2.1 bt277.2.2.2.1 bt277.2.2.2.2.1 bt277.2.2.2.2.2.1 bt277.2.2.2.2.2.2).bind fun bt286 => (if 0 < (bt286.2.2.2.2.2.1.length : Int) then (some (((rd_T26 bt286.2.2.2.2.2.1 0).f6) == 0)) else (none))))))) else (none)) else (none)) else (none)) else (none)) else (none)) else (none)) else (none)))) else (none)))) else (none))) else (none)) = some r := H
 have A7 := Aside0.mk A70
 clear A70
 by_cases c8 : t244 = 0
 case neg => rw [if_neg c8] at H; exact absurd H (by simp)
 rw [if_pos c8] at H
 have c8b0 : (t244 == 0) = true := beq_iff_eq.mpr c8
 have c8b1 : (t244 != 0) = false := bne_eq_false_iff_eq.mpr c8
 clear c8
 replace H := Option.bind_eq_some_iff.mp H
 obtain ⟨t245, A90, H⟩ := H
 replace H : (if t245 = 70 then ((lathelaw07_half.f).bind fun bt246 => ((tree_Count.f k bt246.1 bt246.2.1 bt246.2.2.1 bt246.2.2.2.1 bt246.2.2.2.2.1 bt246.2.2.2.2.2.1 bt246.2.2.2.2.2.2).bind fun t255 => (if t255 = 4 then ((lathelaw07_half.f).bind fun bt256 => ((tree_Depth.f k bt256.1 bt256.2.1 bt256.2.2.1 bt256.2.2.2.1 bt256.2.2.2.2.1 bt256.2.2.2.2.2.1 bt256.2.2.2.2.2.2).bind fun t265 => (if t265 = 3 then (if t211 = true then (if t204 = 1056964608 then (if t210 = 12 then (if (t222.length : Int) = 3 then (if 1 < (t222.length : Int) then (if (rdOf ByteArray.empty t222 1).toList = ([115, 99, 97, 108, 101] : List UInt8) then ((lathelaw07_half.f).bind fun bt267 => ((tree_Equal.f k bt267.1 bt267.2.1 bt267.2.2.1 bt267.2.2.2.1 bt267.2.2.2.2.1 bt267.2.2.2.2.2.1 bt267.2.2.2.2.2.2 t225 (⟨#[67, 104, 97, 105, 110]⟩ : ByteArray) t227 t228 t229 t230 t233).bind fun t276 => (if t276 = true then (none) else ((lathelaw07_half.f).bind fun bt277 => ((tree_Strip.f k bt277.1 bt277.2.1 bt277.2.2.1 bt277.2.2.2.1 bt277.2.2.2.2.1 bt277.2.2.2.2.2.1 bt277.2.2.2.2.2.2).bind fun bt286 => (if 0 < (bt286.2.2.2.2.2.1.length : Int) then (some (((rd_T26 bt286.2.2.2.2.2.1 0).f6) == 0)) else (none))))))) else (none)) else (none)) else (none)) else (none)) else (none)) else (none)) else (none)))) else (none)))) else (none)) = some r := H
 have A9 := Aside0.mk A90
 clear A90
 by_cases c10 : t245 = 70
 case neg => rw [if_neg c10] at H; exact absurd H (by simp)
 rw [if_pos c10] at H
 have c10b0 : (t245 == 70) = true := beq_iff_eq.mpr c10
 have c10b1 : (t245 != 70) = false := bne_eq_false_iff_eq.mpr c10
 clear c10
 replace H := Option.bind_eq_some_iff.mp H
 obtain ⟨⟨t246, t247, t248, t249, t250, t251, t254⟩, A110, H⟩ := H
 replace H : ((tree_Count.f k t246 t247 t248 t249 t250 t251 t254).bind fun t255 => (if t255 = 4 then ((lathelaw07_half.f).bind fun bt256 => ((tree_Depth.f k bt256.1 bt256.2.1 bt256.2.2.1 bt256.2.2.2.1 bt256.2.2.2.2.1 bt256.2.2.2.2.2.1 bt256.2.2.2.2.2.2).bind fun t265 => (if t265 = 3 then (if t211 = true then (if t204 = 1056964608 then (if t210 = 12 then (if (t222.length : Int) = 3 then (if 1 < (t222.length : Int) then (if (rdOf ByteArray.empty t222 1).toList = ([115, 99, 97, 108, 101] : List UInt8) then ((lathelaw07_half.f).bind fun bt267 => ((tree_Equal.f k bt267.1 bt267.2.1 bt267.2.2.1 bt267.2.2.2.1 bt267.2.2.2.2.1 bt267.2.2.2.2.2.1 bt267.2.2.2.2.2.2 t225 (⟨#[67, 104, 97, 105, 110]⟩ : ByteArray) t227 t228 t229 t230 t233).bind fun t276 => (if t276 = true then (none) else ((lathelaw07_half.f).bind fun bt277 => ((tree_Strip.f k bt277.1 bt277.2.1 bt277.2.2.1 bt277.2.2.2.1 bt277.2.2.2.2.1 bt277.2.2.2.2.2.1 bt277.2.2.2.2.2.2).bind fun bt286 => (if 0 < (bt286.2.2.2.2.2.1.length : Int) then (some (((rd_T26 bt286.2.2.2.2.2.1 0).f6) == 0)) else (none))))))) else (none)) else (none)) else (none)) else (none)) else (none)) else (none)) else (none)))) else (none))) = some r := H
 have A11 := Aside0.mk A110
 clear A110
 replace H := Option.bind_eq_some_iff.mp H
 obtain ⟨t255, A120, H⟩ := H
 replace H : (if t255 = 4 then ((lathelaw07_half.f).bind fun bt256 => ((tree_Depth.f k bt256.1 bt256.2.1 bt256.2.2.1 bt256.2.2.2.1 bt256.2.2.2.2.1 bt256.2.2.2.2.2.1 bt256.2.2.2.2.2.2).bind fun t265 => (if t265 = 3 then (if t211 = true then (if t204 = 1056964608 then (if t210 = 12 then (if (t222.length : Int) = 3 then (if 1 < (t222.length : Int) then (if (rdOf ByteArray.empty t222 1).toList = ([115, 99, 97, 108, 101] : List UInt8) then ((lathelaw07_half.f).bind fun bt267 => ((tree_Equal.f k bt267.1 bt267.2.1 bt267.2.2.1 bt267.2.2.2.1 bt267.2.2.2.2.1 bt267.2.2.2.2.2.1 bt267.2.2.2.2.2.2 t225 (⟨#[67, 104, 97, 105, 110]⟩ : ByteArray) t227 t228 t229 t230 t233).bind fun t276 => (if t276 = true then (none) else ((lathelaw07_half.f).bind fun bt277 => ((tree_Strip.f k bt277.1 bt277.2.1 bt277.2.2.1 bt277.2.2.2.1 bt277.2.2.2.2.1 bt277.2.2.2.2.2.1 bt277.2.2.2.2.2.2).bind fun bt286 => (if 0 < (bt286.2.2.2.2.2.1.length : Int) then (some (((rd_T26 bt286.2.2.2.2.2.1 0).f6) == 0)) else (none))))))) else (none)) else (none)) else (none)) else (none)) else (none)) else (none)) else (none)))) else (none)) = some r := H
 have A12 := Aside0.mk A120
 clear A120
 by_cases c13 : t255 = 4
 case neg => rw [if_neg c13] at H; exact absurd H (by simp)
 rw [if_pos c13] at H
 have c13b0 : (t255 == 4) = true := beq_iff_eq.mpr c13
 have c13b1 : (t255 != 4) = false := bne_eq_false_iff_eq.mpr c13
 clear c13
 replace H := Option.bind_eq_some_iff.mp H
 obtain ⟨⟨t256, t257, t258, t259, t260, t261, t264⟩, A140, H⟩ := H
 replace H : ((tree_Depth.f k t256 t257 t258 t259 t260 t261 t264).bind fun t265 => (if t265 = 3 then (if t211 = true then (if t204 = 1056964608 then (if t210 = 12 then (if (t222.length : Int) = 3 then (if 1 < (t222.length : Int) then (if (rdOf ByteArray.empty t222 1).toList = ([115, 99, 97, 108, 101] : List UInt8) then ((lathelaw07_half.f).bind fun bt267 => ((tree_Equal.f k bt267.1 bt267.2.1 bt267.2.2.1 bt267.2.2.2.1 bt267.2.2.2.2.1 bt267.2.2.2.2.2.1 bt267.2.2.2.2.2.2 t225 (⟨#[67, 104, 97, 105, 110]⟩ : ByteArray) t227 t228 t229 t230 t233).bind fun t276 => (if t276 = true then (none) else ((lathelaw07_half.f).bind fun bt277 => ((tree_Strip.f k bt277.1 bt277.2.1 bt277.2.2.1 bt277.2.2.2.1 bt277.2.2.2.2.1 bt277.2.2.2.2.2.1 bt277.2.2.2.2.2.2).bind fun bt286 => (if 0 < (bt286.2.2.2.2.2.1.length : Int) then (some (((rd_T26 bt286.2.2.2.2.2.1 0).f6) == 0)) else (none))))))) else (none)) else (none)) else (none)) else (none)) else (none)) else (none)) else (none))) = some r := H
 have A14 := Aside0.mk A140
 clear A140
 replace H := Option.bind_eq_some_iff.mp H
 obtain ⟨t265, A150, H⟩ := H
 replace H : (if t265 = 3 then (if t211 = true then (if t204 = 1056964608 then (if t210 = 12 then (if (t222.length : Int) = 3 then (if 1 < (t222.length : Int) then (if (rdOf ByteArray.empty t222 1).toList = ([115, 99, 97, 108, 101] : List UInt8) then ((lathelaw07_half.f).bind fun bt267 => ((tree_Equal.f k bt267.1 bt267.2.1 bt267.2.2.1 bt267.2.2.2.1 bt267.2.2.2.2.1 bt267.2.2.2.2.2.1 bt267.2.2.2.2.2.2 t225 (⟨#[67, 104, 97, 105, 110]⟩ : ByteArray) t227 t228 t229 t230 t233).bind fun t276 => (if t276 = true then (none) else ((lathelaw07_half.f).bind fun bt277 => ((tree_Strip.f k bt277.1 bt277.2.1 bt277.2.2.1 bt277.2.2.2.1 bt277.2.2.2.2.1 bt277.2.2.2.2.2.1 bt277.2.2.2.2.2.2).bind fun bt286 => (if 0 < (bt286.2.2.2.2.2.1.length : Int) then (some (((rd_T26 bt286.2.2.2.2.2.1 0).f6) == 0)) else (none))))))) else (none)) else (none)) else (none)) else (none)) else (none)) else (none)) else (none)) = some r := H
 have A15 := Aside0.mk A150
 clear A150
 by_cases c16 : t265 = 3
 case neg => rw [if_neg c16] at H; exact absurd H (by simp)
 rw [if_pos c16] at H
 have c16b0 : (t265 == 3) = true := beq_iff_eq.mpr c16
 have c16b1 : (t265 != 3) = false := bne_eq_false_iff_eq.mpr c16
 clear c16
 by_cases c17 : t211 = true
 case neg => replace c17 := Bool.eq_false_iff.mpr c17; subst c17; (have H1 : (none) = some r := by rw [if_neg (show ¬ (false = true) by decide)] at H; exact H); exact absurd H1 (by simp)
 subst c17
 have H1 : (if t204 = 1056964608 then (if t210 = 12 then (if (t222.length : Int) = 3 then (if 1 < (t222.length : Int) then (if (rdOf ByteArray.empty t222 1).toList = ([115, 99, 97, 108, 101] : List UInt8) then ((lathelaw07_half.f).bind fun bt267 => ((tree_Equal.f k bt267.1 bt267.2.1 bt267.2.2.1 bt267.2.2.2.1 bt267.2.2.2.2.1 bt267.2.2.2.2.2.1 bt267.2.2.2.2.2.2 t225 (⟨#[67, 104, 97, 105, 110]⟩ : ByteArray) t227 t228 t229 t230 t233).bind fun t276 => (if t276 = true then (none) else ((lathelaw07_half.f).bind fun bt277 => ((tree_Strip.f k bt277.1 bt277.2.1 bt277.2.2.1 bt277.2.2.2.1 bt277.2.2.2.2.1 bt277.2.2.2.2.2.1 bt277.2.2.2.2.2.2).bind fun bt286 => (if 0 < (bt286.2.2.2.2.2.1.length : Int) then (some (((rd_T26 bt286.2.2.2.2.2.1 0).f6) == 0)) else (none))))))) else (none)) else (none)) else (none)) else (none)) else (none)) = some r := by rw [if_pos rfl] at H; exact H
 clear H
 have H := H1
 clear H1
 by_cases c18 : t204 = 1056964608
 case neg => rw [if_neg c18] at H; exact absurd H (by simp)
 rw [if_pos c18] at H
 have c18b0 : (t204 == 1056964608) = true := beq_iff_eq.mpr c18
 have c18b1 : (t204 != 1056964608) = false := bne_eq_false_iff_eq.mpr c18
 clear c18
 by_cases c19 : t210 = 12
 case neg => rw [if_neg c19] at H; exact absurd H (by simp)
 rw [if_pos c19] at H
 have c19b0 : (t210 == 12) = true := beq_iff_eq.mpr c19
 have c19b1 : (t210 != 12) = false := bne_eq_false_iff_eq.mpr c19
 clear c19
 by_cases c20 : (t222.length : Int) = 3
 case neg => rw [if_neg c20] at H; exact absurd H (by simp)
 rw [if_pos c20] at H
 have c20b0 : ((t222.length : Int) == 3) = true := beq_iff_eq.mpr c20
 have c20b1 : ((t222.length : Int) != 3) = false := bne_eq_false_iff_eq.mpr c20
 clear c20
 by_cases c21 : 1 < (t222.length : Int)
 case neg => rw [if_neg c21] at H; exact absurd H (by simp)
 rw [if_pos c21] at H
 have c21b0 : decide (1 < (t222.length : Int)) = true := decide_eq_true c21
 have c21b1 : decide (1 < t222.length) = true := decide_eq_true (by omega)
 clear c21
 by_cases c22 : (rdOf ByteArray.empty t222 1).toList = ([115, 99, 97, 108, 101] : List UInt8)
 case neg => rw [if_neg c22] at H; exact absurd H (by simp)
 rw [if_pos c22] at H
 have c22b0 : ((rdOf ByteArray.empty t222 1).toList == ([115, 99, 97, 108, 101] : List UInt8)) = true := beq_iff_eq.mpr c22
 have c22b1 : ((rdOf ByteArray.empty t222 1).toList != ([115, 99, 97, 108, 101] : List UInt8)) = false := bne_eq_false_iff_eq.mpr c22
 clear c22
 replace H := Option.bind_eq_some_iff.mp H
 obtain ⟨⟨t267, t268, t269, t270, t271, t272, t275⟩, A230, H⟩ := H
 replace H : ((tree_Equal.f k t267 t268 t269 t270 t271 t272 t275 t225 (⟨#[67, 104, 97, 105, 110]⟩ : ByteArray) t227 t228 t229 t230 t233).bind fun t276 => (if t276 = true then (none) else ((lathelaw07_half.f).bind fun bt277 => ((tree_Strip.f k bt277.1 bt277.2.1 bt277.2.2.1 bt277.2.2.2.1 bt277.2.2.2.2.1 bt277.2.2.2.2.2.1 bt277.2.2.2.2.2.2).bind fun bt286 => (if 0 < (bt286.2.2.2.2.2.1.length : Int) then (some (((rd_T26 bt286.2.2.2.2.2.1 0).f6) == 0)) else (none)))))) = some r := H
 have A23 := Aside0.mk A230
 clear A230
 replace H := Option.bind_eq_some_iff.mp H
 obtain ⟨t276, A240, H⟩ := H
 replace H : (if t276 = true then (none) else ((lathelaw07_half.f).bind fun bt277 => ((tree_Strip.f k bt277.1 bt277.2.1 bt277.2.2.1 bt277.2.2.2.1 bt277.2.2.2.2.1 bt277.2.2.2.2.2.1 bt277.2.2.2.2.2.2).bind fun bt286 => (if 0 < (bt286.2.2.2.2.2.1.length : Int) then (some (((rd_T26 bt286.2.2.2.2.2.1 0).f6) == 0)) else (none))))) = some r := H
 have A24 := Aside0.mk A240
 clear A240
 by_cases c25 : t276 = true
 ·subst c25
  have H1 : (none) = some r := by rw [if_pos rfl] at H; exact H
  exact absurd H1 (by simp)
 ·replace c25 := Bool.eq_false_iff.mpr c25
  subst c25
  have H1 : ((lathelaw07_half.f).bind fun bt277 => ((tree_Strip.f k bt277.1 bt277.2.1 bt277.2.2.1 bt277.2.2.2.1 bt277.2.2.2.2.1 bt277.2.2.2.2.2.1 bt277.2.2.2.2.2.2).bind fun bt286 => (if 0 < (bt286.2.2.2.2.2.1.length : Int) then (some (((rd_T26 bt286.2.2.2.2.2.1 0).f6) == 0)) else (none)))) = some r := by rw [if_neg (show ¬ (false = true) by decide)] at H; exact H
  clear H
  have H := H1
  clear H1
  replace H := Option.bind_eq_some_iff.mp H
  obtain ⟨⟨t277, t278, t279, t280, t281, t282, t285⟩, A590, H⟩ := H
  replace H : ((tree_Strip.f k t277 t278 t279 t280 t281 t282 t285).bind fun bt286 => (if 0 < (bt286.2.2.2.2.2.1.length : Int) then (some (((rd_T26 bt286.2.2.2.2.2.1 0).f6) == 0)) else (none))) = some r := H
  have A59 := Aside0.mk A590
  clear A590
  replace H := Option.bind_eq_some_iff.mp H
  obtain ⟨⟨t286, t287, t288, t289, t290, t291, t294⟩, A600, H⟩ := H
  replace H : (if 0 < (t291.length : Int) then (some (((rd_T26 t291 0).f6) == 0)) else (none)) = some r := H
  have A60 := Aside0.mk A600
  clear A600
  by_cases c61 : 0 < (t291.length : Int)
  case neg => rw [if_neg c61] at H; exact absurd H (by simp)
  rw [if_pos c61] at H
  have c61b0 : decide (0 < (t291.length : Int)) = true := decide_eq_true c61
  have c61b1 : decide (0 < t291.length) = true := decide_eq_true (by omega)
  clear c61
  obtain rfl := Option.some.inj H
  go_enter Try.func11, Try.ntmps11
  try go_wp2_with (first | ((with_reducible refine gate_callee (f := 31) rfl ?_); refine goesL_ (some 6) rfl rfl Try.func31 (by kernel_rfl) rfl #[] rfl (by (try simp only [List.map_toArray, List.map_cons, List.map_nil]); first | done | rfl | (simp only [List.length_drop, List.length_take]; rfl)) ?_; (with_reducible refine (lathelaw07_half.calls  t190 t191 t192 t193 t194 t195 t198 _ A1.out).mono ?_); rintro e w62 ⟨v196, rfl, ho0, hb⟩; refine ⟨_, rfl, ?_⟩; have HO197 := Aside0.mk (Kd.N_lower (Kd.N_mono (ok' := fun k_ => True) ho0 (fun k_ hk_ => trivial)) (below_size (by repeat (first | (with_reducible first | exact HB.out | apply below_alloc | apply pw_below_drewN | apply below_drew1) | exact HB.out)))); replace HB := Aside0.mk (below_step (by repeat (first | (with_reducible first | exact HB.out | apply below_alloc | apply pw_below_drewN | apply below_drew1) | exact HB.out)) hb); (try clear hb); (try clear hb2); (try clear hk); (try clear hi); (try clear ho0)) | ((with_reducible refine gate_dst (N := 7) rfl ?_); (try (refine gate_guard (by rfl) ?_; dsimp only)); refine Kd.R_lit (Kd.int .i64) _ 3 ?hg (N := 7) ?hd (xs := ([0, 0] : List Int)) (inner := [.int .i64 0, .int .i64 0]) (ok := fun _ => True) (okp := fun _ => True) ?hr ?hp (fun _ hk => hk) trivial (Below.refl _ _) (Nat.le_refl _) (by simp) ?_; (case hd => rfl); (case hg => rfl); (case hr => first | (go_simp; done) | (go_simp; rfl)); (case hp => exact (Reps.one (show Kd.M (Kd.int .i64) _ _ _ 0 [.int .i64 0] from rfl) (Reps.one (show Kd.M (Kd.int .i64) _ _ _ 0 [.int .i64 0] from rfl) (Reps.none _ _)))); intro v200 w63 ho64 hb hg_ hnew_; clear hg_ hnew_; (first | rw [← Ny199.out] at ho64 | (simp only [Int.reduceToNat] at ho64; rw [← Ny199.out] at ho64)); replace HO197 := Aside0.mk (Kd.N_elder' (by (with_reducible repeat (first | apply Kd.N_alloc | apply Kd.N_drewN | apply Kd.N_drew)); exact HO197.out) (Kd.R_base ho64) hb); have HO201 := Aside0.mk (Kd.R_lower ho64 (below_size (by repeat (first | (with_reducible first | exact HB.out | apply below_alloc | apply pw_below_drewN | apply below_drew1) | exact HB.out)))); replace HB := Aside0.mk (below_step (by repeat (first | (with_reducible first | exact HB.out | apply below_alloc | apply pw_below_drewN | apply below_drew1) | exact HB.out)) hb); clear hb ho64; obtain ⟨Ao65, co65, eo65⟩ := Kd.N_slice HO197.out; subst eo65; obtain ⟨Ao66, co66, eo66⟩ := Kd.R_slice HO201.out; subst eo66) | ((with_reducible refine gate_callee (f := 27) rfl ?_); refine goesL_ (some 8) rfl rfl Try.func27 (by kernel_rfl) rfl #[.agg #[.int .i64 t190, .string t191, .int .u32 t192, .int .i64 t193, .string t194, .slice Ao65 t195.length co65, .int .i64 t198], .slice Ao66 y199.length co66] rfl (by (try simp only [List.map_toArray, List.map_cons, List.map_nil]); first | done | rfl | (simp only [List.length_drop, List.length_take]; rfl)) ?_; (with_reducible refine (tree_Find.calls k t190 t191 t192 t193 t194 (fun k_ => (True ∧ some k_ ≠ (.slice Ao66 y199.length co66 : Value).ownBlock)) _ _ t195 t198 _ _ y199 t202 t203 t204 t205 t206 t207 t210 true _ ?side1 ?side2 ?side3 A2.out).mono ?_); (case side1 => exact Kd.N_V (HO197.out)); (case side2 => repeat (first | exact (Kd.R_reads' HO201.out).2.2 | (with_reducible refine Kd.C_alloc ?_ _) | (with_reducible refine Kd.C_drewN ?_ _) | (with_reducible refine Kd.C_drew ?_))); (case side3 => exact (Kd.R_reads' HO201.out).2.1); rintro e w67 ⟨v208, rfl, ho0, hb⟩; refine ⟨_, rfl, ?_⟩; replace HO197 := Aside0.mk (Kd.N_elder' (by (with_reducible repeat (first | apply Kd.N_alloc | apply Kd.N_drewN | apply Kd.N_drew)); exact HO197.out) (by first | exact Kd.N_base ho0 | exact Kd.R_base ho0) hb); have HO209 := Aside0.mk (Kd.N_lower (by first | exact Kd.N_mono (ok' := fun k_ => some k_ ≠ (.slice Ao66 y199.length co66 : Value).ownBlock) ho0 (fun k_ hk_ => Or.elim hk_ (fun hs_ => hs_.2) (fun hn_ => (Kd.fresh' (Kd.R_lt (by (with_reducible repeat (first | apply Kd.R_alloc | apply Kd.R_drewN | apply Kd.R_drew)); exact HO201.out)) k_ hn_))) | exact Kd.N_mono (ok' := fun k_ => some k_ ≠ (.slice Ao66 y199.length co66 : Value).ownBlock) (Kd.R_N ho0) (fun k_ hn_ => (Kd.fresh' (Kd.R_lt (by (with_reducible repeat (first | apply Kd.R_alloc | apply Kd.R_drewN | apply Kd.R_drew)); exact HO201.out)) k_ hn_))) (below_size (by repeat (first | (with_reducible first | exact HB.out | apply below_alloc | apply pw_below_drewN | apply below_drew1) | exact HB.out)))); replace HO201 := Aside0.mk (Kd.R_below (by (with_reducible repeat (first | apply Kd.R_alloc | apply Kd.R_drewN | apply Kd.R_drew)); exact HO201.out) hb); replace HB := Aside0.mk (below_step (by repeat (first | (with_reducible first | exact HB.out | apply below_alloc | apply pw_below_drewN | apply below_drew1) | exact HB.out)) hb); (try clear hb); (try clear hb2); (try clear hk); (try clear hi); (try clear ho0)) | ((with_reducible refine gate_dst (N := 1) rfl ?_); (try (refine gate_guard (by rfl) ?_; dsimp only)); refine box_event ?hg (N := 1) ?hd (cs := #[.int .i64 0, .string (⟨#[]⟩ : ByteArray), .int .u32 0, .int .i64 0, .string (⟨#[]⟩ : ByteArray), .slice none 0 0, .int .i64 0]) (t := 26) ?hr ?_; (case hd => rfl); (case hg => rfl); (case hr => first | (go_simp; done) | (go_simp; rfl)); intro gb212 hg w68 hbox hb; replace HO197 := Aside0.mk (Kd.N_below (Kd.N_elderB (by (with_reducible repeat (first | apply Kd.N_alloc | apply Kd.N_drewN | apply Kd.N_drew)); exact HO197.out) gb212 (Nat.le_of_eq hg.symm)) hb); replace HO201 := Aside0.mk (Kd.R_below (by (with_reducible repeat (first | apply Kd.R_alloc | apply Kd.R_drewN | apply Kd.R_drew)); exact HO201.out) hb); replace HO209 := Aside0.mk (Kd.N_below (Kd.N_elderB (by (with_reducible repeat (first | apply Kd.N_alloc | apply Kd.N_drewN | apply Kd.N_drew)); exact HO209.out) gb212 (Nat.le_of_eq hg.symm)) hb); have BK212 := Aside0.mk (hbox); have GW212 := Aside0.mk ((by rw [hg]; exact (below_size (by repeat (first | (with_reducible first | exact HB.out | apply below_alloc | apply pw_below_drewN | apply below_drew1) | exact HB.out))) : w.heap.size ≤ gb212)); have GE212 := Aside0.mk ((by rw [hg]; exact (below_size (by repeat (first | (with_reducible first | exact HB.out | apply below_alloc | apply pw_below_drewN | apply below_drew1) | exact HB.out))) : w.heap.size ≤ gb212)); replace HB := Aside0.mk (below_step (by repeat (first | (with_reducible first | exact HB.out | apply below_alloc | apply pw_below_drewN | apply below_drew1) | exact HB.out)) hb); clear hb hbox hg; obtain ⟨hcz69_0, hcz69_1, hcz69_2, hcz69_3, hcz69_4, hcz69_5, hcz69_6, hfz69_0, hfz69_1, hfz69_2, hfz69_3, hfz69_4, hfz69_5, hfz69_6⟩ := blk7 BK212.out; obtain ⟨Ao70, co70, eo70⟩ := Kd.N_slice HO209.out; subst eo70) | ((with_reducible refine gate_callee (f := 31) rfl ?_); refine goesL_ (some 11) rfl rfl Try.func31 (by kernel_rfl) rfl #[] rfl (by (try simp only [List.map_toArray, List.map_cons, List.map_nil]); first | done | rfl | (simp only [List.length_drop, List.length_take]; rfl)) ?_; (with_reducible refine (lathelaw07_half.calls  t213 t214 t215 t216 t217 t218 t221 _ A3.out).mono ?_); rintro e w71 ⟨v219, rfl, ho0, hb⟩; refine ⟨_, rfl, ?_⟩; have HO220 := Aside0.mk (Kd.N_lower (Kd.N_mono (ok' := fun k_ => some k_ ≠ (.slice Ao65 t195.length co65 : Value).ownBlock ∧ some k_ ≠ (.slice Ao66 y199.length co66 : Value).ownBlock ∧ some k_ ≠ (.slice Ao70 t207.length co70 : Value).ownBlock ∧ k_ ≠ gb212) ho0 (fun k_ hk_ => ⟨(Kd.fresh' (Kd.N_lt (by (with_reducible repeat (first | apply Kd.N_alloc | apply Kd.N_drewN | apply Kd.N_drew)); exact (Kd.N_mono (Kd.N_far (p := ⟨gb212, 6, none⟩) (Kd.N_far (p := ⟨gb212, 5, none⟩) (Kd.N_far (p := ⟨gb212, 4, none⟩) (Kd.N_far (p := ⟨gb212, 3, none⟩) (Kd.N_far (p := ⟨gb212, 2, none⟩) (Kd.N_far (p := ⟨gb212, 1, none⟩) (Kd.N_far (p := ⟨gb212, 0, none⟩) (Kd.N_mono HO197.out (fun k_ hk => (⟨hk, hk.2⟩ : _ ∧ k_ ≠ gb212))) (fun _ hk => hk.2) (.int .i64 t202)) (fun _ hk => hk.2) (.string t203)) (fun _ hk => hk.2) (.int .u32 t204)) (fun _ hk => hk.2) (.int .i64 t205)) (fun _ hk => hk.2) (.string t206)) (fun _ hk => hk.2) (.slice Ao70 t207.length co70)) (fun _ hk => hk.2) (.int .i64 t210)) (fun _ h_ => h_.1)))) k_ hk_), (Kd.fresh' (Kd.R_lt (by (with_reducible repeat (first | apply Kd.R_alloc | apply Kd.R_drewN | apply Kd.R_drew)); exact (Kd.R_mono (Kd.R_far (p := ⟨gb212, 6, none⟩) (Kd.R_far (p := ⟨gb212, 5, none⟩) (Kd.R_far (p := ⟨gb212, 4, none⟩) (Kd.R_far (p := ⟨gb212, 3, none⟩) (Kd.R_far (p := ⟨gb212, 2, none⟩) (Kd.R_far (p := ⟨gb212, 1, none⟩) (Kd.R_far (p := ⟨gb212, 0, none⟩) (Kd.R_types HO201.out BK212.out (by decide)) (fun _ hk => hk.2) (.int .i64 t202)) (fun _ hk => hk.2) (.string t203)) (fun _ hk => hk.2) (.int .u32 t204)) (fun _ hk => hk.2) (.int .i64 t205)) (fun _ hk => hk.2) (.string t206)) (fun _ hk => hk.2) (.slice Ao70 t207.length co70)) (fun _ hk => hk.2) (.int .i64 t210)) (fun _ h_ => h_.1)))) k_ hk_), (Kd.fresh' (Kd.N_lt (by (with_reducible repeat (first | apply Kd.N_alloc | apply Kd.N_drewN | apply Kd.N_drew)); exact (Kd.N_mono (Kd.N_far (p := ⟨gb212, 6, none⟩) (Kd.N_far (p := ⟨gb212, 5, none⟩) (Kd.N_far (p := ⟨gb212, 4, none⟩) (Kd.N_far (p := ⟨gb212, 3, none⟩) (Kd.N_far (p := ⟨gb212, 2, none⟩) (Kd.N_far (p := ⟨gb212, 1, none⟩) (Kd.N_far (p := ⟨gb212, 0, none⟩) (Kd.N_mono HO209.out (fun k_ hk => (⟨hk, hk.2⟩ : _ ∧ k_ ≠ gb212))) (fun _ hk => hk.2) (.int .i64 t202)) (fun _ hk => hk.2) (.string t203)) (fun _ hk => hk.2) (.int .u32 t204)) (fun _ hk => hk.2) (.int .i64 t205)) (fun _ hk => hk.2) (.string t206)) (fun _ hk => hk.2) (.slice Ao70 t207.length co70)) (fun _ hk => hk.2) (.int .i64 t210)) (fun _ h_ => h_.1)))) k_ hk_), (Kd.freshB (g := gb212) (o := .cells #[.int .i64 t202, .string t203, .int .u32 t204, .int .i64 t205, .string t206, .slice Ao70 t207.length co70, .int .i64 t210] 26 (0, 0)) (by (with_reducible repeat (first | refine blk_drewN ?_ _ | refine blk_drew ?_ | refine blk_alloc ?_ _)); refine blk_put (cs := #[.int .i64 t202, .string t203, .int .u32 t204, .int .i64 t205, .string t206, .slice Ao70 t207.length co70, .int .i64 0]) ?_ 6 _ rfl; refine blk_put (cs := #[.int .i64 t202, .string t203, .int .u32 t204, .int .i64 t205, .string t206, .slice none 0 0, .int .i64 0]) ?_ 5 _ rfl; refine blk_put (cs := #[.int .i64 t202, .string t203, .int .u32 t204, .int .i64 t205, .string (⟨#[]⟩ : ByteArray), .slice none 0 0, .int .i64 0]) ?_ 4 _ rfl; refine blk_put (cs := #[.int .i64 t202, .string t203, .int .u32 t204, .int .i64 0, .string (⟨#[]⟩ : ByteArray), .slice none 0 0, .int .i64 0]) ?_ 3 _ rfl; refine blk_put (cs := #[.int .i64 t202, .string t203, .int .u32 0, .int .i64 0, .string (⟨#[]⟩ : ByteArray), .slice none 0 0, .int .i64 0]) ?_ 2 _ rfl; refine blk_put (cs := #[.int .i64 t202, .string (⟨#[]⟩ : ByteArray), .int .u32 0, .int .i64 0, .string (⟨#[]⟩ : ByteArray), .slice none 0 0, .int .i64 0]) ?_ 1 _ rfl; refine blk_put (cs := #[.int .i64 0, .string (⟨#[]⟩ : ByteArray), .int .u32 0, .int .i64 0, .string (⟨#[]⟩ : ByteArray), .slice none 0 0, .int .i64 0]) ?_ 0 _ rfl; (with_reducible repeat (first | refine blk_drewN ?_ _ | refine blk_drew ?_ | refine blk_alloc ?_ _)); exact BK212.out) k_ hk_)⟩)) (below_size (by repeat (first | (with_reducible first | exact HB.out | apply below_alloc | apply pw_below_drewN | apply below_drew1 | refine below_set ?_ GE212.out) | exact HB.out)))); replace HO197 := Aside0.mk (Kd.N_elder' (by (with_reducible repeat (first | apply Kd.N_alloc | apply Kd.N_drewN | apply Kd.N_drew)); exact (Kd.N_mono (Kd.N_far (p := ⟨gb212, 6, none⟩) (Kd.N_far (p := ⟨gb212, 5, none⟩) (Kd.N_far (p := ⟨gb212, 4, none⟩) (Kd.N_far (p := ⟨gb212, 3, none⟩) (Kd.N_far (p := ⟨gb212, 2, none⟩) (Kd.N_far (p := ⟨gb212, 1, none⟩) (Kd.N_far (p := ⟨gb212, 0, none⟩) (Kd.N_mono HO197.out (fun k_ hk => (⟨hk, hk.2⟩ : _ ∧ k_ ≠ gb212))) (fun _ hk => hk.2) (.int .i64 t202)) (fun _ hk => hk.2) (.string t203)) (fun _ hk => hk.2) (.int .u32 t204)) (fun _ hk => hk.2) (.int .i64 t205)) (fun _ hk => hk.2) (.string t206)) (fun _ hk => hk.2) (.slice Ao70 t207.length co70)) (fun _ hk => hk.2) (.int .i64 t210)) (fun _ h_ => h_.1))) (by first | exact Kd.N_base ho0 | exact Kd.R_base ho0) hb); replace HO201 := Aside0.mk (Kd.R_below (by (with_reducible repeat (first | apply Kd.R_alloc | apply Kd.R_drewN | apply Kd.R_drew)); exact (Kd.R_mono (Kd.R_far (p := ⟨gb212, 6, none⟩) (Kd.R_far (p := ⟨gb212, 5, none⟩) (Kd.R_far (p := ⟨gb212, 4, none⟩) (Kd.R_far (p := ⟨gb212, 3, none⟩) (Kd.R_far (p := ⟨gb212, 2, none⟩) (Kd.R_far (p := ⟨gb212, 1, none⟩) (Kd.R_far (p := ⟨gb212, 0, none⟩) (Kd.R_types HO201.out BK212.out (by decide)) (fun _ hk => hk.2) (.int .i64 t202)) (fun _ hk => hk.2) (.string t203)) (fun _ hk => hk.2) (.int .u32 t204)) (fun _ hk => hk.2) (.int .i64 t205)) (fun _ hk => hk.2) (.string t206)) (fun _ hk => hk.2) (.slice Ao70 t207.length co70)) (fun _ hk => hk.2) (.int .i64 t210)) (fun _ h_ => h_.1))) hb); replace HO209 := Aside0.mk (Kd.N_elder' (by (with_reducible repeat (first | apply Kd.N_alloc | apply Kd.N_drewN | apply Kd.N_drew)); exact (Kd.N_mono (Kd.N_far (p := ⟨gb212, 6, none⟩) (Kd.N_far (p := ⟨gb212, 5, none⟩) (Kd.N_far (p := ⟨gb212, 4, none⟩) (Kd.N_far (p := ⟨gb212, 3, none⟩) (Kd.N_far (p := ⟨gb212, 2, none⟩) (Kd.N_far (p := ⟨gb212, 1, none⟩) (Kd.N_far (p := ⟨gb212, 0, none⟩) (Kd.N_mono HO209.out (fun k_ hk => (⟨hk, hk.2⟩ : _ ∧ k_ ≠ gb212))) (fun _ hk => hk.2) (.int .i64 t202)) (fun _ hk => hk.2) (.string t203)) (fun _ hk => hk.2) (.int .u32 t204)) (fun _ hk => hk.2) (.int .i64 t205)) (fun _ hk => hk.2) (.string t206)) (fun _ hk => hk.2) (.slice Ao70 t207.length co70)) (fun _ hk => hk.2) (.int .i64 t210)) (fun _ h_ => h_.1))) (by first | exact Kd.N_base ho0 | exact Kd.R_base ho0) hb); replace BK212 := Aside0.mk (blk_below (g := gb212) (o := .cells #[.int .i64 t202, .string t203, .int .u32 t204, .int .i64 t205, .string t206, .slice Ao70 t207.length co70, .int .i64 t210] 26 (0, 0)) (by (with_reducible repeat (first | refine blk_drewN ?_ _ | refine blk_drew ?_ | refine blk_alloc ?_ _)); refine blk_put (cs := #[.int .i64 t202, .string t203, .int .u32 t204, .int .i64 t205, .string t206, .slice Ao70 t207.length co70, .int .i64 0]) ?_ 6 _ rfl; refine blk_put (cs := #[.int .i64 t202, .string t203, .int .u32 t204, .int .i64 t205, .string t206, .slice none 0 0, .int .i64 0]) ?_ 5 _ rfl; refine blk_put (cs := #[.int .i64 t202, .string t203, .int .u32 t204, .int .i64 t205, .string (⟨#[]⟩ : ByteArray), .slice none 0 0, .int .i64 0]) ?_ 4 _ rfl; refine blk_put (cs := #[.int .i64 t202, .string t203, .int .u32 t204, .int .i64 0, .string (⟨#[]⟩ : ByteArray), .slice none 0 0, .int .i64 0]) ?_ 3 _ rfl; refine blk_put (cs := #[.int .i64 t202, .string t203, .int .u32 0, .int .i64 0, .string (⟨#[]⟩ : ByteArray), .slice none 0 0, .int .i64 0]) ?_ 2 _ rfl; refine blk_put (cs := #[.int .i64 t202, .string (⟨#[]⟩ : ByteArray), .int .u32 0, .int .i64 0, .string (⟨#[]⟩ : ByteArray), .slice none 0 0, .int .i64 0]) ?_ 1 _ rfl; refine blk_put (cs := #[.int .i64 0, .string (⟨#[]⟩ : ByteArray), .int .u32 0, .int .i64 0, .string (⟨#[]⟩ : ByteArray), .slice none 0 0, .int .i64 0]) ?_ 0 _ rfl; (with_reducible repeat (first | refine blk_drewN ?_ _ | refine blk_drew ?_ | refine blk_alloc ?_ _)); exact BK212.out) hb); replace HB := Aside0.mk (below_step (by repeat (first | (with_reducible first | exact HB.out | apply below_alloc | apply pw_below_drewN | apply below_drew1 | refine below_set ?_ GE212.out) | exact HB.out)) hb); (try clear hb); (try clear hb2); (try clear hk); (try clear hi); (try clear ho0); obtain ⟨Ao72, co72, eo72⟩ := Kd.N_slice HO220.out; subst eo72) | ((with_reducible refine gate_callee (f := 25) rfl ?_); refine goesL_ (some 12) rfl rfl Try.func25 (by kernel_rfl) rfl #[.agg #[.int .i64 t213, .string t214, .int .u32 t215, .int .i64 t216, .string t217, .slice Ao72 t218.length co72, .int .i64 t221]] rfl (by (try simp only [List.map_toArray, List.map_cons, List.map_nil]); first | done | rfl | (simp only [List.length_drop, List.length_take]; rfl)) ?_; (with_reducible refine (tree_Names.calls k t213 t214 t215 t216 t217 _ _ t218 t221 t222 _ ?side1 ?side2 A4.out).mono ?_); (case side1 => repeat (first | exact (Kd.N_reads' HO220.out).2.2 | (with_reducible refine Kd.C_alloc ?_ _) | (with_reducible refine Kd.C_drewN ?_ _) | (with_reducible refine Kd.C_drew ?_))); (case side2 => exact (Kd.N_reads' HO220.out).2.1); rintro e w73 ⟨v223, rfl, ho0, hb⟩; refine ⟨_, rfl, ?_⟩; replace HO197 := Aside0.mk (Kd.N_elder' (by (with_reducible repeat (first | apply Kd.N_alloc | apply Kd.N_drewN | apply Kd.N_drew)); exact HO197.out) (Kd.R_base ho0) hb); replace HO201 := Aside0.mk (Kd.R_below (by (with_reducible repeat (first | apply Kd.R_alloc | apply Kd.R_drewN | apply Kd.R_drew)); exact HO201.out) hb); replace HO209 := Aside0.mk (Kd.N_elder' (by (with_reducible repeat (first | apply Kd.N_alloc | apply Kd.N_drewN | apply Kd.N_drew)); exact HO209.out) (Kd.R_base ho0) hb); replace HO220 := Aside0.mk (Kd.N_elder' (by (with_reducible repeat (first | apply Kd.N_alloc | apply Kd.N_drewN | apply Kd.N_drew)); exact HO220.out) (Kd.R_base ho0) hb); have HO224 := Aside0.mk (Kd.R_lower ho0 (below_size (by repeat (first | (with_reducible first | exact HB.out | apply below_alloc | apply pw_below_drewN | apply below_drew1 | refine below_set ?_ GE212.out) | exact HB.out)))); replace BK212 := Aside0.mk (blk_below (by (with_reducible repeat (first | refine blk_drewN ?_ _ | refine blk_drew ?_ | refine blk_alloc ?_ _)); exact BK212.out) hb); replace HB := Aside0.mk (below_step (by repeat (first | (with_reducible first | exact HB.out | apply below_alloc | apply pw_below_drewN | apply below_drew1 | refine below_set ?_ GE212.out) | exact HB.out)) hb); (try clear hb); (try clear hb2); (try clear hk); (try clear hi); (try clear ho0)) | ((with_reducible refine gate_callee (f := 31) rfl ?_); refine goesL_ (some 13) rfl rfl Try.func31 (by kernel_rfl) rfl #[] rfl (by (try simp only [List.map_toArray, List.map_cons, List.map_nil]); first | done | rfl | (simp only [List.length_drop, List.length_take]; rfl)) ?_; (with_reducible refine (lathelaw07_half.calls  t225 t226 t227 t228 t229 t230 t233 _ A5.out).mono ?_); rintro e w74 ⟨v231, rfl, ho0, hb⟩; refine ⟨_, rfl, ?_⟩; have HO232 := Aside0.mk (Kd.N_lower (Kd.N_mono (ok' := fun k_ => some k_ ≠ (.slice Ao65 t195.length co65 : Value).ownBlock ∧ some k_ ≠ (.slice Ao66 y199.length co66 : Value).ownBlock ∧ some k_ ≠ (.slice Ao70 t207.length co70 : Value).ownBlock ∧ some k_ ≠ (.slice Ao72 t218.length co72 : Value).ownBlock ∧ some k_ ≠ (v223 : Value).ownBlock ∧ k_ ≠ gb212) ho0 (fun k_ hk_ => ⟨(Kd.fresh' (Kd.N_lt (by (with_reducible repeat (first | apply Kd.N_alloc | apply Kd.N_drewN | apply Kd.N_drew)); exact HO197.out)) k_ hk_), (Kd.fresh' (Kd.R_lt (by (with_reducible repeat (first | apply Kd.R_alloc | apply Kd.R_drewN | apply Kd.R_drew)); exact HO201.out)) k_ hk_), (Kd.fresh' (Kd.N_lt (by (with_reducible repeat (first | apply Kd.N_alloc | apply Kd.N_drewN | apply Kd.N_drew)); exact HO209.out)) k_ hk_), (Kd.fresh' (Kd.N_lt (by (with_reducible repeat (first | apply Kd.N_alloc | apply Kd.N_drewN | apply Kd.N_drew)); exact HO220.out)) k_ hk_), (Kd.fresh' (Kd.R_lt (by (with_reducible repeat (first | apply Kd.R_alloc | apply Kd.R_drewN | apply Kd.R_drew)); exact HO224.out)) k_ hk_), (Kd.freshB (by (with_reducible repeat (first | refine blk_drewN ?_ _ | refine blk_drew ?_ | refine blk_alloc ?_ _)); exact BK212.out) k_ hk_)⟩)) (below_size (by repeat (first | (with_reducible first | exact HB.out | apply below_alloc | apply pw_below_drewN | apply below_drew1 | refine below_set ?_ GE212.out) | exact HB.out)))); replace HO197 := Aside0.mk (Kd.N_elder' (by (with_reducible repeat (first | apply Kd.N_alloc | apply Kd.N_drewN | apply Kd.N_drew)); exact HO197.out) (by first | exact Kd.N_base ho0 | exact Kd.R_base ho0) hb); replace HO201 := Aside0.mk (Kd.R_below (by (with_reducible repeat (first | apply Kd.R_alloc | apply Kd.R_drewN | apply Kd.R_drew)); exact HO201.out) hb); replace HO209 := Aside0.mk (Kd.N_elder' (by (with_reducible repeat (first | apply Kd.N_alloc | apply Kd.N_drewN | apply Kd.N_drew)); exact HO209.out) (by first | exact Kd.N_base ho0 | exact Kd.R_base ho0) hb); replace HO220 := Aside0.mk (Kd.N_elder' (by (with_reducible repeat (first | apply Kd.N_alloc | apply Kd.N_drewN | apply Kd.N_drew)); exact HO220.out) (by first | exact Kd.N_base ho0 | exact Kd.R_base ho0) hb); replace HO224 := Aside0.mk (Kd.R_below (by (with_reducible repeat (first | apply Kd.R_alloc | apply Kd.R_drewN | apply Kd.R_drew)); exact HO224.out) hb); replace BK212 := Aside0.mk (blk_below (by (with_reducible repeat (first | refine blk_drewN ?_ _ | refine blk_drew ?_ | refine blk_alloc ?_ _)); exact BK212.out) hb); replace HB := Aside0.mk (below_step (by repeat (first | (with_reducible first | exact HB.out | apply below_alloc | apply pw_below_drewN | apply below_drew1 | refine below_set ?_ GE212.out) | exact HB.out)) hb); (try clear hb); (try clear hb2); (try clear hk); (try clear hi); (try clear ho0)) | ((with_reducible refine gate_dst (N := 4) rfl ?_); (try (refine gate_guard (by rfl) ?_; dsimp only)); refine box_event ?hg (N := 4) ?hd (cs := #[.int .i64 0, .string (⟨#[]⟩ : ByteArray), .int .u32 0, .int .i64 0, .string (⟨#[]⟩ : ByteArray), .slice none 0 0, .int .i64 0]) (t := 26) ?hr ?_; (case hd => rfl); (case hg => rfl); (case hr => first | (go_simp; done) | (go_simp; rfl)); intro gb234 hg w75 hbox hb; replace HO197 := Aside0.mk (Kd.N_below (Kd.N_elderB (by (with_reducible repeat (first | apply Kd.N_alloc | apply Kd.N_drewN | apply Kd.N_drew)); exact HO197.out) gb234 (Nat.le_of_eq hg.symm)) hb); replace HO201 := Aside0.mk (Kd.R_below (by (with_reducible repeat (first | apply Kd.R_alloc | apply Kd.R_drewN | apply Kd.R_drew)); exact HO201.out) hb); replace HO209 := Aside0.mk (Kd.N_below (Kd.N_elderB (by (with_reducible repeat (first | apply Kd.N_alloc | apply Kd.N_drewN | apply Kd.N_drew)); exact HO209.out) gb234 (Nat.le_of_eq hg.symm)) hb); replace HO220 := Aside0.mk (Kd.N_below (Kd.N_elderB (by (with_reducible repeat (first | apply Kd.N_alloc | apply Kd.N_drewN | apply Kd.N_drew)); exact HO220.out) gb234 (Nat.le_of_eq hg.symm)) hb); replace HO224 := Aside0.mk (Kd.R_below (by (with_reducible repeat (first | apply Kd.R_alloc | apply Kd.R_drewN | apply Kd.R_drew)); exact HO224.out) hb); replace HO232 := Aside0.mk (Kd.N_below (Kd.N_elderB (by (with_reducible repeat (first | apply Kd.N_alloc | apply Kd.N_drewN | apply Kd.N_drew)); exact HO232.out) gb234 (Nat.le_of_eq hg.symm)) hb); have BK234 := Aside0.mk (hbox); have GW234 := Aside0.mk ((by rw [hg]; exact (below_size (by repeat (first | (with_reducible first | exact HB.out | apply below_alloc | apply pw_below_drewN | apply below_drew1 | refine below_set ?_ GE212.out) | exact HB.out))) : w.heap.size ≤ gb234)); have GE234 := Aside0.mk ((by rw [hg]; exact (below_size (by repeat (first | (with_reducible first | exact HB.out | apply below_alloc | apply pw_below_drewN | apply below_drew1 | refine below_set ?_ GE212.out) | exact HB.out))) : w.heap.size ≤ gb234)); replace HB := Aside0.mk (below_step (by repeat (first | (with_reducible first | exact HB.out | apply below_alloc | apply pw_below_drewN | apply below_drew1 | refine below_set ?_ GE212.out) | exact HB.out)) hb); have NB212_234 := Aside0.mk ((by rw [hg]; exact Nat.ne_of_lt (blk_lt (by (with_reducible repeat (first | refine blk_drewN ?_ _ | refine blk_drew ?_ | refine blk_alloc ?_ _)); exact BK212.out)) : gb212 ≠ gb234)); have NB234_212 := Aside0.mk ((by rw [hg]; exact Nat.ne_of_gt (blk_lt (by (with_reducible repeat (first | refine blk_drewN ?_ _ | refine blk_drew ?_ | refine blk_alloc ?_ _)); exact BK212.out)) : gb234 ≠ gb212)); replace BK212 := Aside0.mk (blk_below (by (with_reducible repeat (first | refine blk_drewN ?_ _ | refine blk_drew ?_ | refine blk_alloc ?_ _)); exact BK212.out) hb); clear hb hbox hg; have hnb76 := NB234_212.out; have hnc76 := NB212_234.out; obtain ⟨hcz77_0, hcz77_1, hcz77_2, hcz77_3, hcz77_4, hcz77_5, hcz77_6, hfz77_0, hfz77_1, hfz77_2, hfz77_3, hfz77_4, hfz77_5, hfz77_6⟩ := blk7 BK234.out; obtain ⟨Ao78, co78, eo78⟩ := Kd.N_slice HO232.out; subst eo78))
  have n0_ : Aside0 (Kd.N k26 26 ((((((((w75.setCell ⟨gb234, 0, none⟩ (.int .i64 t225)).setCell ⟨gb234, 1, none⟩ (.string t226)).setCell ⟨gb234, 2, none⟩ (.int .u32 t227)).setCell ⟨gb234, 3, none⟩ (.int .i64 t228)).setCell ⟨gb234, 4, none⟩ (.string t229)).setCell ⟨gb234, 5, none⟩ (.slice Ao78 t230.length co78)).setCell ⟨gb234, 6, none⟩ (.int .i64 t233)).setCell ⟨gb234, 1, none⟩ (.string (⟨#[67, 104, 97, 105, 110]⟩ : ByteArray))) w.heap.size (fun k_ => some k_ ≠ (.slice Ao66 y199.length co66 : Value).ownBlock ∧ some k_ ≠ (.slice Ao70 t207.length co70 : Value).ownBlock ∧ some k_ ≠ (.slice Ao72 t218.length co72 : Value).ownBlock ∧ some k_ ≠ (v223 : Value).ownBlock ∧ some k_ ≠ (.slice Ao78 t230.length co78 : Value).ownBlock ∧ k_ ≠ gb212 ∧ k_ ≠ gb234) (.slice Ao65 t195.length co65) t195) := ⟨by (with_reducible repeat (first | apply Kd.N_alloc | apply Kd.N_drewN | apply Kd.N_drew)); exact Kd.N_mono (Kd.N_far (p := ⟨gb234, 1, none⟩) (Kd.N_far (p := ⟨gb234, 6, none⟩) (Kd.N_far (p := ⟨gb234, 5, none⟩) (Kd.N_far (p := ⟨gb234, 4, none⟩) (Kd.N_far (p := ⟨gb234, 3, none⟩) (Kd.N_far (p := ⟨gb234, 2, none⟩) (Kd.N_far (p := ⟨gb234, 1, none⟩) (Kd.N_far (p := ⟨gb234, 0, none⟩) (Kd.N_mono HO197.out (fun k_ hk => (⟨hk, hk.2⟩ : _ ∧ k_ ≠ gb234))) (fun _ hk => hk.2) (.int .i64 t225)) (fun _ hk => hk.2) (.string t226)) (fun _ hk => hk.2) (.int .u32 t227)) (fun _ hk => hk.2) (.int .i64 t228)) (fun _ hk => hk.2) (.string t229)) (fun _ hk => hk.2) (.slice Ao78 t230.length co78)) (fun _ hk => hk.2) (.int .i64 t233)) (fun _ hk => hk.2) (.string (⟨#[67, 104, 97, 105, 110]⟩ : ByteArray))) (fun _ hk => ⟨hk.1.1.1.1.1.1.1.2, ⟨hk.1.1.1.1.1.1.2, ⟨hk.1.1.1.1.2, ⟨hk.1.1.1.2, ⟨hk.1.1.2, ⟨hk.1.1.1.1.1.2, hk.1.2⟩⟩⟩⟩⟩⟩)⟩
  have n1_ : Aside0 (Kd.R (Kd.int .i64) 3 ((((((((w75.setCell ⟨gb234, 0, none⟩ (.int .i64 t225)).setCell ⟨gb234, 1, none⟩ (.string t226)).setCell ⟨gb234, 2, none⟩ (.int .u32 t227)).setCell ⟨gb234, 3, none⟩ (.int .i64 t228)).setCell ⟨gb234, 4, none⟩ (.string t229)).setCell ⟨gb234, 5, none⟩ (.slice Ao78 t230.length co78)).setCell ⟨gb234, 6, none⟩ (.int .i64 t233)).setCell ⟨gb234, 1, none⟩ (.string (⟨#[67, 104, 97, 105, 110]⟩ : ByteArray))) w.heap.size (fun _ => True) (.slice Ao66 y199.length co66) y199) := ⟨by (with_reducible repeat (first | apply Kd.R_alloc | apply Kd.R_drewN | apply Kd.R_drew)); exact Kd.R_mono (Kd.R_far (p := ⟨gb234, 1, none⟩) (Kd.R_far (p := ⟨gb234, 6, none⟩) (Kd.R_far (p := ⟨gb234, 5, none⟩) (Kd.R_far (p := ⟨gb234, 4, none⟩) (Kd.R_far (p := ⟨gb234, 3, none⟩) (Kd.R_far (p := ⟨gb234, 2, none⟩) (Kd.R_far (p := ⟨gb234, 1, none⟩) (Kd.R_far (p := ⟨gb234, 0, none⟩) (Kd.R_types HO201.out BK234.out (by decide)) (fun _ hk => hk.2) (.int .i64 t225)) (fun _ hk => hk.2) (.string t226)) (fun _ hk => hk.2) (.int .u32 t227)) (fun _ hk => hk.2) (.int .i64 t228)) (fun _ hk => hk.2) (.string t229)) (fun _ hk => hk.2) (.slice Ao78 t230.length co78)) (fun _ hk => hk.2) (.int .i64 t233)) (fun _ hk => hk.2) (.string (⟨#[67, 104, 97, 105, 110]⟩ : ByteArray))) (fun _ hk => trivial)⟩
  have n2_ : Aside0 (Kd.N k26 26 ((((((((w75.setCell ⟨gb234, 0, none⟩ (.int .i64 t225)).setCell ⟨gb234, 1, none⟩ (.string t226)).setCell ⟨gb234, 2, none⟩ (.int .u32 t227)).setCell ⟨gb234, 3, none⟩ (.int .i64 t228)).setCell ⟨gb234, 4, none⟩ (.string t229)).setCell ⟨gb234, 5, none⟩ (.slice Ao78 t230.length co78)).setCell ⟨gb234, 6, none⟩ (.int .i64 t233)).setCell ⟨gb234, 1, none⟩ (.string (⟨#[67, 104, 97, 105, 110]⟩ : ByteArray))) w.heap.size (fun k_ => some k_ ≠ (.slice Ao66 y199.length co66 : Value).ownBlock ∧ some k_ ≠ (.slice Ao72 t218.length co72 : Value).ownBlock ∧ some k_ ≠ (v223 : Value).ownBlock ∧ some k_ ≠ (.slice Ao78 t230.length co78 : Value).ownBlock ∧ k_ ≠ gb212 ∧ k_ ≠ gb234) (.slice Ao70 t207.length co70) t207) := ⟨by (with_reducible repeat (first | apply Kd.N_alloc | apply Kd.N_drewN | apply Kd.N_drew)); exact Kd.N_mono (Kd.N_far (p := ⟨gb234, 1, none⟩) (Kd.N_far (p := ⟨gb234, 6, none⟩) (Kd.N_far (p := ⟨gb234, 5, none⟩) (Kd.N_far (p := ⟨gb234, 4, none⟩) (Kd.N_far (p := ⟨gb234, 3, none⟩) (Kd.N_far (p := ⟨gb234, 2, none⟩) (Kd.N_far (p := ⟨gb234, 1, none⟩) (Kd.N_far (p := ⟨gb234, 0, none⟩) (Kd.N_mono HO209.out (fun k_ hk => (⟨hk, hk.2⟩ : _ ∧ k_ ≠ gb234))) (fun _ hk => hk.2) (.int .i64 t225)) (fun _ hk => hk.2) (.string t226)) (fun _ hk => hk.2) (.int .u32 t227)) (fun _ hk => hk.2) (.int .i64 t228)) (fun _ hk => hk.2) (.string t229)) (fun _ hk => hk.2) (.slice Ao78 t230.length co78)) (fun _ hk => hk.2) (.int .i64 t233)) (fun _ hk => hk.2) (.string (⟨#[67, 104, 97, 105, 110]⟩ : ByteArray))) (fun _ hk => ⟨hk.1.1.1.1.1.1, ⟨hk.1.1.1.1.2, ⟨hk.1.1.1.2, ⟨hk.1.1.2, ⟨hk.1.1.1.1.1.2, hk.1.2⟩⟩⟩⟩⟩)⟩
  have n3_ : Aside0 (Kd.N k26 26 ((((((((w75.setCell ⟨gb234, 0, none⟩ (.int .i64 t225)).setCell ⟨gb234, 1, none⟩ (.string t226)).setCell ⟨gb234, 2, none⟩ (.int .u32 t227)).setCell ⟨gb234, 3, none⟩ (.int .i64 t228)).setCell ⟨gb234, 4, none⟩ (.string t229)).setCell ⟨gb234, 5, none⟩ (.slice Ao78 t230.length co78)).setCell ⟨gb234, 6, none⟩ (.int .i64 t233)).setCell ⟨gb234, 1, none⟩ (.string (⟨#[67, 104, 97, 105, 110]⟩ : ByteArray))) w.heap.size (fun k_ => some k_ ≠ (.slice Ao65 t195.length co65 : Value).ownBlock ∧ some k_ ≠ (.slice Ao66 y199.length co66 : Value).ownBlock ∧ some k_ ≠ (.slice Ao70 t207.length co70 : Value).ownBlock ∧ some k_ ≠ (v223 : Value).ownBlock ∧ some k_ ≠ (.slice Ao78 t230.length co78 : Value).ownBlock ∧ k_ ≠ gb212 ∧ k_ ≠ gb234) (.slice Ao72 t218.length co72) t218) := ⟨by (with_reducible repeat (first | apply Kd.N_alloc | apply Kd.N_drewN | apply Kd.N_drew)); exact Kd.N_mono (Kd.N_far (p := ⟨gb234, 1, none⟩) (Kd.N_far (p := ⟨gb234, 6, none⟩) (Kd.N_far (p := ⟨gb234, 5, none⟩) (Kd.N_far (p := ⟨gb234, 4, none⟩) (Kd.N_far (p := ⟨gb234, 3, none⟩) (Kd.N_far (p := ⟨gb234, 2, none⟩) (Kd.N_far (p := ⟨gb234, 1, none⟩) (Kd.N_far (p := ⟨gb234, 0, none⟩) (Kd.N_mono HO220.out (fun k_ hk => (⟨hk, hk.2⟩ : _ ∧ k_ ≠ gb234))) (fun _ hk => hk.2) (.int .i64 t225)) (fun _ hk => hk.2) (.string t226)) (fun _ hk => hk.2) (.int .u32 t227)) (fun _ hk => hk.2) (.int .i64 t228)) (fun _ hk => hk.2) (.string t229)) (fun _ hk => hk.2) (.slice Ao78 t230.length co78)) (fun _ hk => hk.2) (.int .i64 t233)) (fun _ hk => hk.2) (.string (⟨#[67, 104, 97, 105, 110]⟩ : ByteArray))) (fun _ hk => ⟨hk.1.1.1.1.1, ⟨hk.1.1.1.1.2.1, ⟨hk.1.1.1.1.2.2.1, ⟨hk.1.1.1.2, ⟨hk.1.1.2, ⟨hk.1.1.1.1.2.2.2, hk.1.2⟩⟩⟩⟩⟩⟩)⟩
  have n4_ : Aside0 (Kd.R Kd.string 9 ((((((((w75.setCell ⟨gb234, 0, none⟩ (.int .i64 t225)).setCell ⟨gb234, 1, none⟩ (.string t226)).setCell ⟨gb234, 2, none⟩ (.int .u32 t227)).setCell ⟨gb234, 3, none⟩ (.int .i64 t228)).setCell ⟨gb234, 4, none⟩ (.string t229)).setCell ⟨gb234, 5, none⟩ (.slice Ao78 t230.length co78)).setCell ⟨gb234, 6, none⟩ (.int .i64 t233)).setCell ⟨gb234, 1, none⟩ (.string (⟨#[67, 104, 97, 105, 110]⟩ : ByteArray))) w.heap.size (fun _ => True) v223 t222) := ⟨by (with_reducible repeat (first | apply Kd.R_alloc | apply Kd.R_drewN | apply Kd.R_drew)); exact Kd.R_mono (Kd.R_far (p := ⟨gb234, 1, none⟩) (Kd.R_far (p := ⟨gb234, 6, none⟩) (Kd.R_far (p := ⟨gb234, 5, none⟩) (Kd.R_far (p := ⟨gb234, 4, none⟩) (Kd.R_far (p := ⟨gb234, 3, none⟩) (Kd.R_far (p := ⟨gb234, 2, none⟩) (Kd.R_far (p := ⟨gb234, 1, none⟩) (Kd.R_far (p := ⟨gb234, 0, none⟩) (Kd.R_types HO224.out BK234.out (by decide)) (fun _ hk => hk.2) (.int .i64 t225)) (fun _ hk => hk.2) (.string t226)) (fun _ hk => hk.2) (.int .u32 t227)) (fun _ hk => hk.2) (.int .i64 t228)) (fun _ hk => hk.2) (.string t229)) (fun _ hk => hk.2) (.slice Ao78 t230.length co78)) (fun _ hk => hk.2) (.int .i64 t233)) (fun _ hk => hk.2) (.string (⟨#[67, 104, 97, 105, 110]⟩ : ByteArray))) (fun _ hk => trivial)⟩
  have n5_ : Aside0 (Kd.N k26 26 ((((((((w75.setCell ⟨gb234, 0, none⟩ (.int .i64 t225)).setCell ⟨gb234, 1, none⟩ (.string t226)).setCell ⟨gb234, 2, none⟩ (.int .u32 t227)).setCell ⟨gb234, 3, none⟩ (.int .i64 t228)).setCell ⟨gb234, 4, none⟩ (.string t229)).setCell ⟨gb234, 5, none⟩ (.slice Ao78 t230.length co78)).setCell ⟨gb234, 6, none⟩ (.int .i64 t233)).setCell ⟨gb234, 1, none⟩ (.string (⟨#[67, 104, 97, 105, 110]⟩ : ByteArray))) w.heap.size (fun k_ => some k_ ≠ (.slice Ao65 t195.length co65 : Value).ownBlock ∧ some k_ ≠ (.slice Ao66 y199.length co66 : Value).ownBlock ∧ some k_ ≠ (.slice Ao70 t207.length co70 : Value).ownBlock ∧ some k_ ≠ (.slice Ao72 t218.length co72 : Value).ownBlock ∧ some k_ ≠ (v223 : Value).ownBlock ∧ k_ ≠ gb212 ∧ k_ ≠ gb234) (.slice Ao78 t230.length co78) t230) := ⟨by (with_reducible repeat (first | apply Kd.N_alloc | apply Kd.N_drewN | apply Kd.N_drew)); exact Kd.N_mono (Kd.N_far (p := ⟨gb234, 1, none⟩) (Kd.N_far (p := ⟨gb234, 6, none⟩) (Kd.N_far (p := ⟨gb234, 5, none⟩) (Kd.N_far (p := ⟨gb234, 4, none⟩) (Kd.N_far (p := ⟨gb234, 3, none⟩) (Kd.N_far (p := ⟨gb234, 2, none⟩) (Kd.N_far (p := ⟨gb234, 1, none⟩) (Kd.N_far (p := ⟨gb234, 0, none⟩) (Kd.N_mono HO232.out (fun k_ hk => (⟨hk, hk.2⟩ : _ ∧ k_ ≠ gb234))) (fun _ hk => hk.2) (.int .i64 t225)) (fun _ hk => hk.2) (.string t226)) (fun _ hk => hk.2) (.int .u32 t227)) (fun _ hk => hk.2) (.int .i64 t228)) (fun _ hk => hk.2) (.string t229)) (fun _ hk => hk.2) (.slice Ao78 t230.length co78)) (fun _ hk => hk.2) (.int .i64 t233)) (fun _ hk => hk.2) (.string (⟨#[67, 104, 97, 105, 110]⟩ : ByteArray))) (fun _ hk => ⟨hk.1.1.1, ⟨hk.1.1.2.1, ⟨hk.1.1.2.2.1, ⟨hk.1.1.2.2.2.1, ⟨hk.1.1.2.2.2.2.1, ⟨hk.1.1.2.2.2.2.2, hk.1.2⟩⟩⟩⟩⟩⟩)⟩
  have n6_ : Aside0 (((((((((w75.setCell ⟨gb234, 0, none⟩ (.int .i64 t225)).setCell ⟨gb234, 1, none⟩ (.string t226)).setCell ⟨gb234, 2, none⟩ (.int .u32 t227)).setCell ⟨gb234, 3, none⟩ (.int .i64 t228)).setCell ⟨gb234, 4, none⟩ (.string t229)).setCell ⟨gb234, 5, none⟩ (.slice Ao78 t230.length co78)).setCell ⟨gb234, 6, none⟩ (.int .i64 t233)).setCell ⟨gb234, 1, none⟩ (.string (⟨#[67, 104, 97, 105, 110]⟩ : ByteArray))).heap[gb212]? = some (.cells #[.int .i64 t202, .string t203, .int .u32 t204, .int .i64 t205, .string t206, .slice Ao70 t207.length co70, .int .i64 t210] 26 (0, 0))) := ⟨by (repeat (first | (with_reducible first | refine blk_drewN ?_ _ | refine blk_drew ?_ | refine blk_alloc ?_ _) | refine blk_far ?_ NB212_234.out _)); exact BK212.out⟩
  have n7_ : Aside0 (((((((((w75.setCell ⟨gb234, 0, none⟩ (.int .i64 t225)).setCell ⟨gb234, 1, none⟩ (.string t226)).setCell ⟨gb234, 2, none⟩ (.int .u32 t227)).setCell ⟨gb234, 3, none⟩ (.int .i64 t228)).setCell ⟨gb234, 4, none⟩ (.string t229)).setCell ⟨gb234, 5, none⟩ (.slice Ao78 t230.length co78)).setCell ⟨gb234, 6, none⟩ (.int .i64 t233)).setCell ⟨gb234, 1, none⟩ (.string (⟨#[67, 104, 97, 105, 110]⟩ : ByteArray))).heap[gb234]? = some (.cells #[.int .i64 t225, .string (⟨#[67, 104, 97, 105, 110]⟩ : ByteArray), .int .u32 t227, .int .i64 t228, .string t229, .slice Ao78 t230.length co78, .int .i64 t233] 26 (0, 0))) := ⟨by (with_reducible repeat (first | refine blk_drewN ?_ _ | refine blk_drew ?_ | refine blk_alloc ?_ _)); refine blk_put (cs := #[.int .i64 t225, .string t226, .int .u32 t227, .int .i64 t228, .string t229, .slice Ao78 t230.length co78, .int .i64 t233]) ?_ 1 _ rfl; refine blk_put (cs := #[.int .i64 t225, .string t226, .int .u32 t227, .int .i64 t228, .string t229, .slice Ao78 t230.length co78, .int .i64 0]) ?_ 6 _ rfl; refine blk_put (cs := #[.int .i64 t225, .string t226, .int .u32 t227, .int .i64 t228, .string t229, .slice none 0 0, .int .i64 0]) ?_ 5 _ rfl; refine blk_put (cs := #[.int .i64 t225, .string t226, .int .u32 t227, .int .i64 t228, .string (⟨#[]⟩ : ByteArray), .slice none 0 0, .int .i64 0]) ?_ 4 _ rfl; refine blk_put (cs := #[.int .i64 t225, .string t226, .int .u32 t227, .int .i64 0, .string (⟨#[]⟩ : ByteArray), .slice none 0 0, .int .i64 0]) ?_ 3 _ rfl; refine blk_put (cs := #[.int .i64 t225, .string t226, .int .u32 0, .int .i64 0, .string (⟨#[]⟩ : ByteArray), .slice none 0 0, .int .i64 0]) ?_ 2 _ rfl; refine blk_put (cs := #[.int .i64 t225, .string (⟨#[]⟩ : ByteArray), .int .u32 0, .int .i64 0, .string (⟨#[]⟩ : ByteArray), .slice none 0 0, .int .i64 0]) ?_ 1 _ rfl; refine blk_put (cs := #[.int .i64 0, .string (⟨#[]⟩ : ByteArray), .int .u32 0, .int .i64 0, .string (⟨#[]⟩ : ByteArray), .slice none 0 0, .int .i64 0]) ?_ 0 _ rfl; (with_reducible repeat (first | refine blk_drewN ?_ _ | refine blk_drew ?_ | refine blk_alloc ?_ _)); exact BK234.out⟩
  have n8_ : Aside0 (Below w.heap.size w ((((((((w75.setCell ⟨gb234, 0, none⟩ (.int .i64 t225)).setCell ⟨gb234, 1, none⟩ (.string t226)).setCell ⟨gb234, 2, none⟩ (.int .u32 t227)).setCell ⟨gb234, 3, none⟩ (.int .i64 t228)).setCell ⟨gb234, 4, none⟩ (.string t229)).setCell ⟨gb234, 5, none⟩ (.slice Ao78 t230.length co78)).setCell ⟨gb234, 6, none⟩ (.int .i64 t233)).setCell ⟨gb234, 1, none⟩ (.string (⟨#[67, 104, 97, 105, 110]⟩ : ByteArray)))) := ⟨by repeat (first | (with_reducible first | exact HB.out | apply below_alloc | apply pw_below_drewN | apply below_drew1 | refine below_set ?_ GE212.out | refine below_set ?_ GE234.out) | exact HB.out)⟩
  (try clear HO197)
  (try clear HO201)
  (try clear HO209)
  (try clear HO220)
  (try clear HO224)
  (try clear HO232)
  (try clear BK212)
  (try clear BK234)
  (try clear HB)
  generalize ((((((((w75.setCell ⟨gb234, 0, none⟩ (.int .i64 t225)).setCell ⟨gb234, 1, none⟩ (.string t226)).setCell ⟨gb234, 2, none⟩ (.int .u32 t227)).setCell ⟨gb234, 3, none⟩ (.int .i64 t228)).setCell ⟨gb234, 4, none⟩ (.string t229)).setCell ⟨gb234, 5, none⟩ (.slice Ao78 t230.length co78)).setCell ⟨gb234, 6, none⟩ (.int .i64 t233)).setCell ⟨gb234, 1, none⟩ (.string (⟨#[67, 104, 97, 105, 110]⟩ : ByteArray))) = w79 at n0_ n1_ n2_ n3_ n4_ n5_ n6_ n7_ n8_ ⊢
  have HO197 := n0_
  have HO201 := n1_
  have HO209 := n2_
  have HO220 := n3_
  have HO224 := n4_
  have HO232 := n5_
  have BK212 := n6_
  have BK234 := n7_
  have HB := n8_
  clear n0_ n1_ n2_ n3_ n4_ n5_ n6_ n7_ n8_
  replace HO197 := Aside0.mk (Kd.N_drew HO197.out)
  replace HO201 := Aside0.mk (Kd.R_drew HO201.out)
  replace HO209 := Aside0.mk (Kd.N_drew HO209.out)
  replace HO220 := Aside0.mk (Kd.N_drew HO220.out)
  replace HO224 := Aside0.mk (Kd.R_drew HO224.out)
  replace HO232 := Aside0.mk (Kd.N_drew HO232.out)
  replace BK212 := Aside0.mk (blk_drew BK212.out)
  replace BK234 := Aside0.mk (blk_drew BK234.out)
  replace HB := Aside0.mk (below_drew1 HB.out)
  have p266 : 0 ≤ (1 : Int) := (by omega)
  have q266 : 1 < (t222.length : Int) := of_decide_eq_true (by first | (with_reducible assumption) | assumption)
  obtain ⟨Aq_, cq_, eq266_⟩ := Kd.R_slice HO224.out
  have HQ_ := HO224.out
  rw [eq266_] at HQ_
  obtain ⟨ad266, e266, hx266_0⟩ := Kd.at_string (Kd.R_reads' HQ_).2.2 1 p266 q266
  clear HQ_
  cases e266
  (try simp only [show (1 : Int).toNat = 1 from rfl, Nat.reduceMul, Nat.reduceEqDiff, Go.Addr.add, ↓reduceIte] at hx266_0)
  have qi266 : (1 < t222.length) = True := eq_true (by omega)
  (try rw [show ((1 : Int)).toNat = 1 from rfl] at hx266_0)
  replace p266 := eq_true p266
  replace q266 := eq_true q266
  refine start_ (n := 58) (S := fun w' => w'.cell? ⟨gb234, 0, none⟩ = some (.int .i64 t225) ∧ w'.cell? ⟨gb234, 1, none⟩ = some (.string (⟨#[67, 104, 97, 105, 110]⟩ : ByteArray)) ∧ w'.cell? ⟨gb234, 2, none⟩ = some (.int .u32 t227) ∧ w'.cell? ⟨gb234, 3, none⟩ = some (.int .i64 t228) ∧ w'.cell? ⟨gb234, 4, none⟩ = some (.string t229) ∧ w'.cell? ⟨gb234, 5, none⟩ = some (.slice Ao78 t230.length co78) ∧ w'.cell? ⟨gb234, 6, none⟩ = some (.int .i64 t233) ∧ w'.cell? ⟨gb212, 0, none⟩ = some (.int .i64 t202) ∧ w'.cell? ⟨gb212, 1, none⟩ = some (.string t203) ∧ w'.cell? ⟨gb212, 2, none⟩ = some (.int .u32 t204) ∧ w'.cell? ⟨gb212, 3, none⟩ = some (.int .i64 t205) ∧ w'.cell? ⟨gb212, 4, none⟩ = some (.string t206) ∧ w'.cell? ⟨gb212, 5, none⟩ = some (.slice Ao70 t207.length co70) ∧ w'.cell? ⟨gb212, 6, none⟩ = some (.int .i64 t210) ∧ w'.cell? ⟨ad266.block, ad266.off + 1, none⟩ = some (.string (rdOf ByteArray.empty t222 1))) (ds := []) #[false, false, false, false, false, false, false, false, false, false, false, false, false, false, false, false, false, false, false, false, false, false, false, false, false, false, false, false, false, false, false, false, false, false, false, false, false, false, false, false, false, false, false, false, false, false, false, false, false, false, false, false, false, false, false, false, false, false] (by kernel_rfl) rfl rfl ⟨(blk_cell BK234.out 0).trans rfl, (blk_cell BK234.out 1).trans rfl, (blk_cell BK234.out 2).trans rfl, (blk_cell BK234.out 3).trans rfl, (blk_cell BK234.out 4).trans rfl, (blk_cell BK234.out 5).trans rfl, (blk_cell BK234.out 6).trans rfl, (blk_cell BK212.out 0).trans rfl, (blk_cell BK212.out 1).trans rfl, (blk_cell BK212.out 2).trans rfl, (blk_cell BK212.out 3).trans rfl, (blk_cell BK212.out 4).trans rfl, (blk_cell BK212.out 5).trans rfl, (blk_cell BK212.out 6).trans rfl, hx266_0⟩ (fun hHeld => ?_); refine with_tabW lathelaw07_sure.tab5 lathelaw07_sure.bits5 (fun HT_ HW_ => ?_)
  generalize w79.drew = w80 at HO197 HO201 HO209 HO220 HO224 HO232 BK212 BK234 HB hx266_0 hHeld ⊢
  refine one_ (i := 0) (N := some 15) (bq true [1, 57]).toArray rfl rfl (one_of HT_.out (by kernel_rfl)) (by decide) (fun K hK => ?_)
  refine goes_ Try.func31 (by kernel_rfl) rfl #[] (by rfl) rfl rfl (by (try simp only [List.map_toArray, List.map_cons, List.map_nil]); first | done | rfl | (simp only [List.length_drop, List.length_take]; rfl)) ?_
  with_reducible refine (lathelaw07_half.calls  t235 t236 t237 t238 t239 t240 t243 _ A6.out).mono ?_
  rintro e w81 ⟨v241, rfl, ho0, hb⟩
  have HS14_ := (hb.cell (World.block_lt_of_cell? _ _ (hHeld.2.2.2.2.2.2.2.2.2.2.2.2.2.2))).trans (hHeld.2.2.2.2.2.2.2.2.2.2.2.2.2.2)
  refine ⟨_, rfl, ?_⟩
  have HO242 := Aside0.mk (Kd.N_lower (Kd.N_mono (ok' := fun k_ => some k_ ≠ (.slice Ao65 t195.length co65 : Value).ownBlock ∧ some k_ ≠ (.slice Ao66 y199.length co66 : Value).ownBlock ∧ some k_ ≠ (.slice Ao70 t207.length co70 : Value).ownBlock ∧ some k_ ≠ (.slice Ao72 t218.length co72 : Value).ownBlock ∧ some k_ ≠ (v223 : Value).ownBlock ∧ some k_ ≠ (.slice Ao78 t230.length co78 : Value).ownBlock ∧ k_ ≠ gb212 ∧ k_ ≠ gb234) ho0 (fun k_ hk_ => ⟨(Kd.fresh' (Kd.N_lt (by (with_reducible repeat (first | apply Kd.N_alloc | apply Kd.N_drewN | apply Kd.N_drew)); exact HO197.out)) k_ hk_), (Kd.fresh' (Kd.R_lt (by (with_reducible repeat (first | apply Kd.R_alloc | apply Kd.R_drewN | apply Kd.R_drew)); exact HO201.out)) k_ hk_), (Kd.fresh' (Kd.N_lt (by (with_reducible repeat (first | apply Kd.N_alloc | apply Kd.N_drewN | apply Kd.N_drew)); exact HO209.out)) k_ hk_), (Kd.fresh' (Kd.N_lt (by (with_reducible repeat (first | apply Kd.N_alloc | apply Kd.N_drewN | apply Kd.N_drew)); exact HO220.out)) k_ hk_), (Kd.fresh' (Kd.R_lt (by (with_reducible repeat (first | apply Kd.R_alloc | apply Kd.R_drewN | apply Kd.R_drew)); exact HO224.out)) k_ hk_), (Kd.fresh' (Kd.N_lt (by (with_reducible repeat (first | apply Kd.N_alloc | apply Kd.N_drewN | apply Kd.N_drew)); exact HO232.out)) k_ hk_), (Kd.freshB (by (with_reducible repeat (first | refine blk_drewN ?_ _ | refine blk_drew ?_ | refine blk_alloc ?_ _)); exact BK212.out) k_ hk_), (Kd.freshB (g := gb234) (o := .cells #[.int .i64 t225, .string (⟨#[67, 104, 97, 105, 110]⟩ : ByteArray), .int .u32 t227, .int .i64 t228, .string t229, .slice Ao78 t230.length co78, .int .i64 t233] 26 (0, 0)) (by (with_reducible repeat (first | refine blk_drewN ?_ _ | refine blk_drew ?_ | refine blk_alloc ?_ _)); exact BK234.out) k_ hk_)⟩)) (below_size (by repeat (first | (with_reducible first | exact HB.out | apply below_alloc | apply pw_below_drewN | apply below_drew1 | refine below_set ?_ GE212.out | refine below_set ?_ GE234.out) | exact HB.out))))
  replace HO197 := Aside0.mk (Kd.N_elder' (by (with_reducible repeat (first | apply Kd.N_alloc | apply Kd.N_drewN | apply Kd.N_drew)); exact HO197.out) (by first | exact Kd.N_base ho0 | exact Kd.R_base ho0) hb)
  replace HO201 := Aside0.mk (Kd.R_below (by (with_reducible repeat (first | apply Kd.R_alloc | apply Kd.R_drewN | apply Kd.R_drew)); exact HO201.out) hb)
  replace HO209 := Aside0.mk (Kd.N_elder' (by (with_reducible repeat (first | apply Kd.N_alloc | apply Kd.N_drewN | apply Kd.N_drew)); exact HO209.out) (by first | exact Kd.N_base ho0 | exact Kd.R_base ho0) hb)
  replace HO220 := Aside0.mk (Kd.N_elder' (by (with_reducible repeat (first | apply Kd.N_alloc | apply Kd.N_drewN | apply Kd.N_drew)); exact HO220.out) (by first | exact Kd.N_base ho0 | exact Kd.R_base ho0) hb)
  replace HO224 := Aside0.mk (Kd.R_below (by (with_reducible repeat (first | apply Kd.R_alloc | apply Kd.R_drewN | apply Kd.R_drew)); exact HO224.out) hb)
  replace HO232 := Aside0.mk (Kd.N_elder' (by (with_reducible repeat (first | apply Kd.N_alloc | apply Kd.N_drewN | apply Kd.N_drew)); exact HO232.out) (by first | exact Kd.N_base ho0 | exact Kd.R_base ho0) hb)
  replace BK212 := Aside0.mk (blk_below (by (with_reducible repeat (first | refine blk_drewN ?_ _ | refine blk_drew ?_ | refine blk_alloc ?_ _)); exact BK212.out) hb)
  replace BK234 := Aside0.mk (blk_below (g := gb234) (o := .cells #[.int .i64 t225, .string (⟨#[67, 104, 97, 105, 110]⟩ : ByteArray), .int .u32 t227, .int .i64 t228, .string t229, .slice Ao78 t230.length co78, .int .i64 t233] 26 (0, 0)) (by (with_reducible repeat (first | refine blk_drewN ?_ _ | refine blk_drew ?_ | refine blk_alloc ?_ _)); exact BK234.out) hb)
  replace HB := Aside0.mk (below_step (by repeat (first | (with_reducible first | exact HB.out | apply below_alloc | apply pw_below_drewN | apply below_drew1 | refine below_set ?_ GE212.out | refine below_set ?_ GE234.out) | exact HB.out)) hb)
  (try clear hb)
  (try clear hb2)
  (try clear hk)
  (try clear hi)
  (try clear ho0)
  obtain ⟨Ao82, co82, eo82⟩ := Kd.N_slice HO242.out
  (first | subst eo82 | (injection eo82 with f1_ f2_ f3_; have f4_ := f1_.symm; have f5_ := f3_.symm; clear f1_ f2_ f3_; subst f4_; subst f5_))
  refine hK.out _ _ ⟨(blk_cell BK234.out 0).trans rfl, (blk_cell BK234.out 1).trans rfl, (blk_cell BK234.out 2).trans rfl, (blk_cell BK234.out 3).trans rfl, (blk_cell BK234.out 4).trans rfl, (blk_cell BK234.out 5).trans rfl, (blk_cell BK234.out 6).trans rfl, (blk_cell BK212.out 0).trans rfl, (blk_cell BK212.out 1).trans rfl, (blk_cell BK212.out 2).trans rfl, (blk_cell BK212.out 3).trans rfl, (blk_cell BK212.out 4).trans rfl, (blk_cell BK212.out 5).trans rfl, (blk_cell BK212.out 6).trans rfl, HS14_⟩ (fun hHeld => ?_)
  clear hK K
  refine norm_ (a' := ?_) ?_ ?_
  rotate_left
  ·show Act.put _ (some 15) _ = _
   simp only [Act.put, List.setIfInBounds_toArray, List.set_cons_zero, List.set_cons_succ, i64_w, i32_w]
   rfl
  refine one_ (i := 1) (N := some 16) (bq true [2, 56]).toArray rfl rfl (one_of HT_.out (by kernel_rfl)) (by decide) (fun K hK => ?_)
  refine goes_ Try.func13 (by kernel_rfl) rfl #[.agg #[.int .i64 t235, .string t236, .int .u32 t237, .int .i64 t238, .string t239, .slice Ao82 t240.length co82, .int .i64 t243]] (by rfl) rfl rfl (by (try simp only [List.map_toArray, List.map_cons, List.map_nil]); first | done | rfl | (simp only [List.length_drop, List.length_take]; rfl)) ?_
  with_reducible refine (tree_Check.calls k t235 t236 t237 t238 t239 _ _ t240 t243 t244 _ ?side1 ?side2 A7.out).mono ?_
  (case side1 => repeat (first | exact (Kd.N_reads' HO242.out).2.2 | (with_reducible refine Kd.C_alloc ?_ _) | (with_reducible refine Kd.C_drewN ?_ _) | (with_reducible refine Kd.C_drew ?_)))
  (case side2 => exact (Kd.N_reads' HO242.out).2.1)
  rintro e w83 ⟨rfl, hb⟩
  have HS14_ := (hb.cell (World.block_lt_of_cell? _ _ (hHeld.2.2.2.2.2.2.2.2.2.2.2.2.2.2))).trans (hHeld.2.2.2.2.2.2.2.2.2.2.2.2.2.2)
  refine ⟨_, rfl, ?_⟩
  replace HO197 := Aside0.mk (Kd.N_below (by (with_reducible repeat (first | apply Kd.N_alloc | apply Kd.N_drewN | apply Kd.N_drew)); exact HO197.out) hb)
  replace HO201 := Aside0.mk (Kd.R_below (by (with_reducible repeat (first | apply Kd.R_alloc | apply Kd.R_drewN | apply Kd.R_drew)); exact HO201.out) hb)
  replace HO209 := Aside0.mk (Kd.N_below (by (with_reducible repeat (first | apply Kd.N_alloc | apply Kd.N_drewN | apply Kd.N_drew)); exact HO209.out) hb)
  replace HO220 := Aside0.mk (Kd.N_below (by (with_reducible repeat (first | apply Kd.N_alloc | apply Kd.N_drewN | apply Kd.N_drew)); exact HO220.out) hb)
  replace HO224 := Aside0.mk (Kd.R_below (by (with_reducible repeat (first | apply Kd.R_alloc | apply Kd.R_drewN | apply Kd.R_drew)); exact HO224.out) hb)
  replace HO232 := Aside0.mk (Kd.N_below (by (with_reducible repeat (first | apply Kd.N_alloc | apply Kd.N_drewN | apply Kd.N_drew)); exact HO232.out) hb)
  replace HO242 := Aside0.mk (Kd.N_below (by (with_reducible repeat (first | apply Kd.N_alloc | apply Kd.N_drewN | apply Kd.N_drew)); exact HO242.out) hb)
  replace BK212 := Aside0.mk (blk_below (by (with_reducible repeat (first | refine blk_drewN ?_ _ | refine blk_drew ?_ | refine blk_alloc ?_ _)); exact BK212.out) hb)
  replace BK234 := Aside0.mk (blk_below (g := gb234) (o := .cells #[.int .i64 t225, .string (⟨#[67, 104, 97, 105, 110]⟩ : ByteArray), .int .u32 t227, .int .i64 t228, .string t229, .slice Ao78 t230.length co78, .int .i64 t233] 26 (0, 0)) (by (with_reducible repeat (first | refine blk_drewN ?_ _ | refine blk_drew ?_ | refine blk_alloc ?_ _)); exact BK234.out) hb)
  replace HB := Aside0.mk (below_step (by repeat (first | (with_reducible first | exact HB.out | apply below_alloc | apply pw_below_drewN | apply below_drew1 | refine below_set ?_ GE212.out | refine below_set ?_ GE234.out) | exact HB.out)) hb)
  (try clear hb)
  (try clear hb2)
  (try clear hk)
  (try clear hi)
  refine hK.out _ _ ⟨(blk_cell BK234.out 0).trans rfl, (blk_cell BK234.out 1).trans rfl, (blk_cell BK234.out 2).trans rfl, (blk_cell BK234.out 3).trans rfl, (blk_cell BK234.out 4).trans rfl, (blk_cell BK234.out 5).trans rfl, (blk_cell BK234.out 6).trans rfl, (blk_cell BK212.out 0).trans rfl, (blk_cell BK212.out 1).trans rfl, (blk_cell BK212.out 2).trans rfl, (blk_cell BK212.out 3).trans rfl, (blk_cell BK212.out 4).trans rfl, (blk_cell BK212.out 5).trans rfl, (blk_cell BK212.out 6).trans rfl, HS14_⟩ (fun hHeld => ?_)
  clear hK K
  refine norm_ (a' := ?_) ?_ ?_
  rotate_left
  ·show Act.put _ (some 16) _ = _
   simp only [Act.put, List.setIfInBounds_toArray, List.set_cons_zero, List.set_cons_succ, i64_w, i32_w]
   rfl
  refine pure_ (i := 2) (N := some 17) (v := ?_) (a' := ?_) (bq true [3, 55]).toArray rfl rfl (any_of HT_.out (by kernel_rfl)) (fun _ _ _ h => h) (Or.inl ⟨by rfl, ?_⟩) ?_ ?_
  rotate_left
  ·intro w'
   go_simp
   with_reducible rfl
  rotate_left
  ·simp only [Act.put, List.setIfInBounds_toArray, List.set_cons_zero, List.set_cons_succ, i64_w, i32_w]
   rfl
  refine pure_ (i := 3) (N := some 18) (v := ?_) (a' := ?_) (bq true [4, 54]).toArray rfl rfl (any_of HT_.out (by kernel_rfl)) (fun _ _ _ h => h) (Or.inl ⟨by rfl, ?_⟩) ?_ ?_
  rotate_left
  ·intro w'
   go_simp
   with_reducible rfl
  rotate_left
  ·simp only [Act.put, List.setIfInBounds_toArray, List.set_cons_zero, List.set_cons_succ, i64_w, i32_w]
   rfl
  refine take_ (i := 4) (N := some 19) (v := ?_) (a' := ?_) (bq true [5, 53]).toArray rfl rfl (take_ofW HT_.out HW_.out (by kernel_rfl)) (fun _ _ _ h => h) (Or.inl ⟨by rfl, ?_⟩) hHeld ?_ ?_
  rotate_left
  ·rintro w' ⟨s0, s1, s2, s3, s4, s5, s6, s7, s8, s9, s10, s11, s12, s13, s14⟩
   go_simp
   with_reducible rfl
  rotate_left
  ·simp only [Act.put, List.setIfInBounds_toArray, List.set_cons_zero, List.set_cons_succ, i64_w, i32_w]
   rfl
  refine one_ (i := 5) (N := some 20) (bq true [6, 52]).toArray rfl rfl (one_of HT_.out (by kernel_rfl)) (by decide) (fun K hK => ?_)
  refine goes_ Try.func13 (by kernel_rfl) rfl #[.agg #[.int .i64 t225, .string (⟨#[67, 104, 97, 105, 110]⟩ : ByteArray), .int .u32 t227, .int .i64 t228, .string t229, .slice Ao78 t230.length co78, .int .i64 t233]] (by rfl) rfl rfl (by (try simp only [List.map_toArray, List.map_cons, List.map_nil]); first | done | rfl | (simp only [List.length_drop, List.length_take]; rfl)) ?_
  with_reducible refine (tree_Check.calls k t225 (⟨#[67, 104, 97, 105, 110]⟩ : ByteArray) t227 t228 t229 _ _ t230 t233 t245 _ ?side1 ?side2 A9.out).mono ?_
  (case side1 => repeat (first | exact (Kd.N_reads' HO232.out).2.2 | (with_reducible refine Kd.C_alloc ?_ _) | (with_reducible refine Kd.C_drewN ?_ _) | (with_reducible refine Kd.C_drew ?_)))
  (case side2 => exact (Kd.N_reads' HO232.out).2.1)
  rintro e w84 ⟨rfl, hb⟩
  have HS14_ := (hb.cell (World.block_lt_of_cell? _ _ (hHeld.2.2.2.2.2.2.2.2.2.2.2.2.2.2))).trans (hHeld.2.2.2.2.2.2.2.2.2.2.2.2.2.2)
  refine ⟨_, rfl, ?_⟩
  replace HO197 := Aside0.mk (Kd.N_below (by (with_reducible repeat (first | apply Kd.N_alloc | apply Kd.N_drewN | apply Kd.N_drew)); exact HO197.out) hb)
  replace HO201 := Aside0.mk (Kd.R_below (by (with_reducible repeat (first | apply Kd.R_alloc | apply Kd.R_drewN | apply Kd.R_drew)); exact HO201.out) hb)
  replace HO209 := Aside0.mk (Kd.N_below (by (with_reducible repeat (first | apply Kd.N_alloc | apply Kd.N_drewN | apply Kd.N_drew)); exact HO209.out) hb)
  replace HO220 := Aside0.mk (Kd.N_below (by (with_reducible repeat (first | apply Kd.N_alloc | apply Kd.N_drewN | apply Kd.N_drew)); exact HO220.out) hb)
  replace HO224 := Aside0.mk (Kd.R_below (by (with_reducible repeat (first | apply Kd.R_alloc | apply Kd.R_drewN | apply Kd.R_drew)); exact HO224.out) hb)
  replace HO232 := Aside0.mk (Kd.N_below (by (with_reducible repeat (first | apply Kd.N_alloc | apply Kd.N_drewN | apply Kd.N_drew)); exact HO232.out) hb)
  replace HO242 := Aside0.mk (Kd.N_below (by (with_reducible repeat (first | apply Kd.N_alloc | apply Kd.N_drewN | apply Kd.N_drew)); exact HO242.out) hb)
  replace BK212 := Aside0.mk (blk_below (by (with_reducible repeat (first | refine blk_drewN ?_ _ | refine blk_drew ?_ | refine blk_alloc ?_ _)); exact BK212.out) hb)
  replace BK234 := Aside0.mk (blk_below (g := gb234) (o := .cells #[.int .i64 t225, .string (⟨#[67, 104, 97, 105, 110]⟩ : ByteArray), .int .u32 t227, .int .i64 t228, .string t229, .slice Ao78 t230.length co78, .int .i64 t233] 26 (0, 0)) (by (with_reducible repeat (first | refine blk_drewN ?_ _ | refine blk_drew ?_ | refine blk_alloc ?_ _)); exact BK234.out) hb)
  replace HB := Aside0.mk (below_step (by repeat (first | (with_reducible first | exact HB.out | apply below_alloc | apply pw_below_drewN | apply below_drew1 | refine below_set ?_ GE212.out | refine below_set ?_ GE234.out) | exact HB.out)) hb)
  (try clear hb)
  (try clear hb2)
  (try clear hk)
  (try clear hi)
  refine hK.out _ _ ⟨(blk_cell BK234.out 0).trans rfl, (blk_cell BK234.out 1).trans rfl, (blk_cell BK234.out 2).trans rfl, (blk_cell BK234.out 3).trans rfl, (blk_cell BK234.out 4).trans rfl, (blk_cell BK234.out 5).trans rfl, (blk_cell BK234.out 6).trans rfl, (blk_cell BK212.out 0).trans rfl, (blk_cell BK212.out 1).trans rfl, (blk_cell BK212.out 2).trans rfl, (blk_cell BK212.out 3).trans rfl, (blk_cell BK212.out 4).trans rfl, (blk_cell BK212.out 5).trans rfl, (blk_cell BK212.out 6).trans rfl, HS14_⟩ (fun hHeld => ?_)
  clear hK K
  refine norm_ (a' := ?_) ?_ ?_
  rotate_left
  ·show Act.put _ (some 20) _ = _
   simp only [Act.put, List.setIfInBounds_toArray, List.set_cons_zero, List.set_cons_succ, i64_w, i32_w]
   rfl
  refine pure_ (i := 6) (N := some 21) (v := ?_) (a' := ?_) (bq true [7, 51]).toArray rfl rfl (any_of HT_.out (by kernel_rfl)) (fun _ _ _ h => h) (Or.inl ⟨by rfl, ?_⟩) ?_ ?_
  rotate_left
  ·intro w'
   go_simp
   with_reducible rfl
  rotate_left
  ·simp only [Act.put, List.setIfInBounds_toArray, List.set_cons_zero, List.set_cons_succ, i64_w, i32_w]
   rfl
  refine pure_ (i := 7) (N := some 22) (v := ?_) (a' := ?_) (bq true [8, 50]).toArray rfl rfl (any_of HT_.out (by kernel_rfl)) (fun _ _ _ h => h) (Or.inl ⟨by rfl, ?_⟩) ?_ ?_
  rotate_left
  ·intro w'
   go_simp
   with_reducible rfl
  rotate_left
  ·simp only [Act.put, List.setIfInBounds_toArray, List.set_cons_zero, List.set_cons_succ, i64_w, i32_w]
   rfl
  refine pure_ (i := 8) (N := some 23) (v := ?_) (a' := ?_) (bq true [9, 49]).toArray rfl rfl (any_of HT_.out (by kernel_rfl)) (fun _ _ _ h => h) (Or.inl ⟨by rfl, ?_⟩) ?_ ?_
  rotate_left
  ·intro w'
   go_simp
   with_reducible rfl
  rotate_left
  ·simp only [Act.put, List.setIfInBounds_toArray, List.set_cons_zero, List.set_cons_succ, i64_w, i32_w]
   rfl
  refine one_ (i := 9) (N := some 24) (bq true [10, 48]).toArray rfl rfl (one_of HT_.out (by kernel_rfl)) (by decide) (fun K hK => ?_)
  refine goes_ Try.func31 (by kernel_rfl) rfl #[] (by rfl) rfl rfl (by (try simp only [List.map_toArray, List.map_cons, List.map_nil]); first | done | rfl | (simp only [List.length_drop, List.length_take]; rfl)) ?_
  with_reducible refine (lathelaw07_half.calls  t246 t247 t248 t249 t250 t251 t254 _ A11.out).mono ?_
  rintro e w85 ⟨v252, rfl, ho0, hb⟩
  have HS14_ := (hb.cell (World.block_lt_of_cell? _ _ (hHeld.2.2.2.2.2.2.2.2.2.2.2.2.2.2))).trans (hHeld.2.2.2.2.2.2.2.2.2.2.2.2.2.2)
  refine ⟨_, rfl, ?_⟩
  have HO253 := Aside0.mk (Kd.N_lower (Kd.N_mono (ok' := fun k_ => some k_ ≠ (.slice Ao65 t195.length co65 : Value).ownBlock ∧ some k_ ≠ (.slice Ao66 y199.length co66 : Value).ownBlock ∧ some k_ ≠ (.slice Ao70 t207.length co70 : Value).ownBlock ∧ some k_ ≠ (.slice Ao72 t218.length co72 : Value).ownBlock ∧ some k_ ≠ (v223 : Value).ownBlock ∧ some k_ ≠ (.slice Ao78 t230.length co78 : Value).ownBlock ∧ some k_ ≠ (.slice Ao82 t240.length co82 : Value).ownBlock ∧ k_ ≠ gb212 ∧ k_ ≠ gb234) ho0 (fun k_ hk_ => ⟨(Kd.fresh' (Kd.N_lt (by (with_reducible repeat (first | apply Kd.N_alloc | apply Kd.N_drewN | apply Kd.N_drew)); exact HO197.out)) k_ hk_), (Kd.fresh' (Kd.R_lt (by (with_reducible repeat (first | apply Kd.R_alloc | apply Kd.R_drewN | apply Kd.R_drew)); exact HO201.out)) k_ hk_), (Kd.fresh' (Kd.N_lt (by (with_reducible repeat (first | apply Kd.N_alloc | apply Kd.N_drewN | apply Kd.N_drew)); exact HO209.out)) k_ hk_), (Kd.fresh' (Kd.N_lt (by (with_reducible repeat (first | apply Kd.N_alloc | apply Kd.N_drewN | apply Kd.N_drew)); exact HO220.out)) k_ hk_), (Kd.fresh' (Kd.R_lt (by (with_reducible repeat (first | apply Kd.R_alloc | apply Kd.R_drewN | apply Kd.R_drew)); exact HO224.out)) k_ hk_), (Kd.fresh' (Kd.N_lt (by (with_reducible repeat (first | apply Kd.N_alloc | apply Kd.N_drewN | apply Kd.N_drew)); exact HO232.out)) k_ hk_), (Kd.fresh' (Kd.N_lt (by (with_reducible repeat (first | apply Kd.N_alloc | apply Kd.N_drewN | apply Kd.N_drew)); exact HO242.out)) k_ hk_), (Kd.freshB (by (with_reducible repeat (first | refine blk_drewN ?_ _ | refine blk_drew ?_ | refine blk_alloc ?_ _)); exact BK212.out) k_ hk_), (Kd.freshB (g := gb234) (o := .cells #[.int .i64 t225, .string (⟨#[67, 104, 97, 105, 110]⟩ : ByteArray), .int .u32 t227, .int .i64 t228, .string t229, .slice Ao78 t230.length co78, .int .i64 t233] 26 (0, 0)) (by (with_reducible repeat (first | refine blk_drewN ?_ _ | refine blk_drew ?_ | refine blk_alloc ?_ _)); exact BK234.out) k_ hk_)⟩)) (below_size (by repeat (first | (with_reducible first | exact HB.out | apply below_alloc | apply pw_below_drewN | apply below_drew1 | refine below_set ?_ GE212.out | refine below_set ?_ GE234.out) | exact HB.out))))
  replace HO197 := Aside0.mk (Kd.N_elder' (by (with_reducible repeat (first | apply Kd.N_alloc | apply Kd.N_drewN | apply Kd.N_drew)); exact HO197.out) (by first | exact Kd.N_base ho0 | exact Kd.R_base ho0) hb)
  replace HO201 := Aside0.mk (Kd.R_below (by (with_reducible repeat (first | apply Kd.R_alloc | apply Kd.R_drewN | apply Kd.R_drew)); exact HO201.out) hb)
  replace HO209 := Aside0.mk (Kd.N_elder' (by (with_reducible repeat (first | apply Kd.N_alloc | apply Kd.N_drewN | apply Kd.N_drew)); exact HO209.out) (by first | exact Kd.N_base ho0 | exact Kd.R_base ho0) hb)
  replace HO220 := Aside0.mk (Kd.N_elder' (by (with_reducible repeat (first | apply Kd.N_alloc | apply Kd.N_drewN | apply Kd.N_drew)); exact HO220.out) (by first | exact Kd.N_base ho0 | exact Kd.R_base ho0) hb)
  replace HO224 := Aside0.mk (Kd.R_below (by (with_reducible repeat (first | apply Kd.R_alloc | apply Kd.R_drewN | apply Kd.R_drew)); exact HO224.out) hb)
  replace HO232 := Aside0.mk (Kd.N_elder' (by (with_reducible repeat (first | apply Kd.N_alloc | apply Kd.N_drewN | apply Kd.N_drew)); exact HO232.out) (by first | exact Kd.N_base ho0 | exact Kd.R_base ho0) hb)
  replace HO242 := Aside0.mk (Kd.N_elder' (by (with_reducible repeat (first | apply Kd.N_alloc | apply Kd.N_drewN | apply Kd.N_drew)); exact HO242.out) (by first | exact Kd.N_base ho0 | exact Kd.R_base ho0) hb)
  replace BK212 := Aside0.mk (blk_below (by (with_reducible repeat (first | refine blk_drewN ?_ _ | refine blk_drew ?_ | refine blk_alloc ?_ _)); exact BK212.out) hb)
  replace BK234 := Aside0.mk (blk_below (g := gb234) (o := .cells #[.int .i64 t225, .string (⟨#[67, 104, 97, 105, 110]⟩ : ByteArray), .int .u32 t227, .int .i64 t228, .string t229, .slice Ao78 t230.length co78, .int .i64 t233] 26 (0, 0)) (by (with_reducible repeat (first | refine blk_drewN ?_ _ | refine blk_drew ?_ | refine blk_alloc ?_ _)); exact BK234.out) hb)
  replace HB := Aside0.mk (below_step (by repeat (first | (with_reducible first | exact HB.out | apply below_alloc | apply pw_below_drewN | apply below_drew1 | refine below_set ?_ GE212.out | refine below_set ?_ GE234.out) | exact HB.out)) hb)
  (try clear hb)
  (try clear hb2)
  (try clear hk)
  (try clear hi)
  (try clear ho0)
  obtain ⟨Ao86, co86, eo86⟩ := Kd.N_slice HO253.out
  (first | subst eo86 | (injection eo86 with f1_ f2_ f3_; have f4_ := f1_.symm; have f5_ := f3_.symm; clear f1_ f2_ f3_; subst f4_; subst f5_))
  refine hK.out _ _ ⟨(blk_cell BK234.out 0).trans rfl, (blk_cell BK234.out 1).trans rfl, (blk_cell BK234.out 2).trans rfl, (blk_cell BK234.out 3).trans rfl, (blk_cell BK234.out 4).trans rfl, (blk_cell BK234.out 5).trans rfl, (blk_cell BK234.out 6).trans rfl, (blk_cell BK212.out 0).trans rfl, (blk_cell BK212.out 1).trans rfl, (blk_cell BK212.out 2).trans rfl, (blk_cell BK212.out 3).trans rfl, (blk_cell BK212.out 4).trans rfl, (blk_cell BK212.out 5).trans rfl, (blk_cell BK212.out 6).trans rfl, HS14_⟩ (fun hHeld => ?_)
  clear hK K
  refine norm_ (a' := ?_) ?_ ?_
  rotate_left
  ·show Act.put _ (some 24) _ = _
   simp only [Act.put, List.setIfInBounds_toArray, List.set_cons_zero, List.set_cons_succ, i64_w, i32_w]
   rfl
  refine one_ (i := 10) (N := some 25) (bq true [11, 47]).toArray rfl rfl (one_of HT_.out (by kernel_rfl)) (by decide) (fun K hK => ?_)
  refine goes_ Try.func19 (by kernel_rfl) rfl #[.agg #[.int .i64 t246, .string t247, .int .u32 t248, .int .i64 t249, .string t250, .slice Ao86 t251.length co86, .int .i64 t254]] (by rfl) rfl rfl (by (try simp only [List.map_toArray, List.map_cons, List.map_nil]); first | done | rfl | (simp only [List.length_drop, List.length_take]; rfl)) ?_
  with_reducible refine (tree_Count.calls k t246 t247 t248 t249 t250 _ _ t251 t254 t255 _ ?side1 ?side2 A12.out).mono ?_
  (case side1 => repeat (first | exact (Kd.N_reads' HO253.out).2.2 | (with_reducible refine Kd.C_alloc ?_ _) | (with_reducible refine Kd.C_drewN ?_ _) | (with_reducible refine Kd.C_drew ?_)))
  (case side2 => exact (Kd.N_reads' HO253.out).2.1)
  rintro e w87 ⟨rfl, hb⟩
  have HS14_ := (hb.cell (World.block_lt_of_cell? _ _ (hHeld.2.2.2.2.2.2.2.2.2.2.2.2.2.2))).trans (hHeld.2.2.2.2.2.2.2.2.2.2.2.2.2.2)
  refine ⟨_, rfl, ?_⟩
  replace HO197 := Aside0.mk (Kd.N_below (by (with_reducible repeat (first | apply Kd.N_alloc | apply Kd.N_drewN | apply Kd.N_drew)); exact HO197.out) hb)
  replace HO201 := Aside0.mk (Kd.R_below (by (with_reducible repeat (first | apply Kd.R_alloc | apply Kd.R_drewN | apply Kd.R_drew)); exact HO201.out) hb)
  replace HO209 := Aside0.mk (Kd.N_below (by (with_reducible repeat (first | apply Kd.N_alloc | apply Kd.N_drewN | apply Kd.N_drew)); exact HO209.out) hb)
  replace HO220 := Aside0.mk (Kd.N_below (by (with_reducible repeat (first | apply Kd.N_alloc | apply Kd.N_drewN | apply Kd.N_drew)); exact HO220.out) hb)
  replace HO224 := Aside0.mk (Kd.R_below (by (with_reducible repeat (first | apply Kd.R_alloc | apply Kd.R_drewN | apply Kd.R_drew)); exact HO224.out) hb)
  replace HO232 := Aside0.mk (Kd.N_below (by (with_reducible repeat (first | apply Kd.N_alloc | apply Kd.N_drewN | apply Kd.N_drew)); exact HO232.out) hb)
  replace HO242 := Aside0.mk (Kd.N_below (by (with_reducible repeat (first | apply Kd.N_alloc | apply Kd.N_drewN | apply Kd.N_drew)); exact HO242.out) hb)
  replace HO253 := Aside0.mk (Kd.N_below (by (with_reducible repeat (first | apply Kd.N_alloc | apply Kd.N_drewN | apply Kd.N_drew)); exact HO253.out) hb)
  replace BK212 := Aside0.mk (blk_below (by (with_reducible repeat (first | refine blk_drewN ?_ _ | refine blk_drew ?_ | refine blk_alloc ?_ _)); exact BK212.out) hb)
  replace BK234 := Aside0.mk (blk_below (g := gb234) (o := .cells #[.int .i64 t225, .string (⟨#[67, 104, 97, 105, 110]⟩ : ByteArray), .int .u32 t227, .int .i64 t228, .string t229, .slice Ao78 t230.length co78, .int .i64 t233] 26 (0, 0)) (by (with_reducible repeat (first | refine blk_drewN ?_ _ | refine blk_drew ?_ | refine blk_alloc ?_ _)); exact BK234.out) hb)
  replace HB := Aside0.mk (below_step (by repeat (first | (with_reducible first | exact HB.out | apply below_alloc | apply pw_below_drewN | apply below_drew1 | refine below_set ?_ GE212.out | refine below_set ?_ GE234.out) | exact HB.out)) hb)
  (try clear hb)
  (try clear hb2)
  (try clear hk)
  (try clear hi)
  refine hK.out _ _ ⟨(blk_cell BK234.out 0).trans rfl, (blk_cell BK234.out 1).trans rfl, (blk_cell BK234.out 2).trans rfl, (blk_cell BK234.out 3).trans rfl, (blk_cell BK234.out 4).trans rfl, (blk_cell BK234.out 5).trans rfl, (blk_cell BK234.out 6).trans rfl, (blk_cell BK212.out 0).trans rfl, (blk_cell BK212.out 1).trans rfl, (blk_cell BK212.out 2).trans rfl, (blk_cell BK212.out 3).trans rfl, (blk_cell BK212.out 4).trans rfl, (blk_cell BK212.out 5).trans rfl, (blk_cell BK212.out 6).trans rfl, HS14_⟩ (fun hHeld => ?_)
  clear hK K
  refine norm_ (a' := ?_) ?_ ?_
  rotate_left
  ·show Act.put _ (some 25) _ = _
   simp only [Act.put, List.setIfInBounds_toArray, List.set_cons_zero, List.set_cons_succ, i64_w, i32_w]
   rfl
  refine pure_ (i := 11) (N := some 26) (v := ?_) (a' := ?_) (bq true [12, 46]).toArray rfl rfl (any_of HT_.out (by kernel_rfl)) (fun _ _ _ h => h) (Or.inl ⟨by rfl, ?_⟩) ?_ ?_
  rotate_left
  ·intro w'
   go_simp
   with_reducible rfl
  rotate_left
  ·simp only [Act.put, List.setIfInBounds_toArray, List.set_cons_zero, List.set_cons_succ, i64_w, i32_w]
   rfl
  refine pure_ (i := 12) (N := some 27) (v := ?_) (a' := ?_) (bq true [13, 45]).toArray rfl rfl (any_of HT_.out (by kernel_rfl)) (fun _ _ _ h => h) (Or.inl ⟨by rfl, ?_⟩) ?_ ?_
  rotate_left
  ·intro w'
   go_simp
   with_reducible rfl
  rotate_left
  ·simp only [Act.put, List.setIfInBounds_toArray, List.set_cons_zero, List.set_cons_succ, i64_w, i32_w]
   rfl
  refine pure_ (i := 13) (N := some 28) (v := ?_) (a' := ?_) (bq true [14, 44]).toArray rfl rfl (any_of HT_.out (by kernel_rfl)) (fun _ _ _ h => h) (Or.inl ⟨by rfl, ?_⟩) ?_ ?_
  rotate_left
  ·intro w'
   go_simp
   with_reducible rfl
  rotate_left
  ·simp only [Act.put, List.setIfInBounds_toArray, List.set_cons_zero, List.set_cons_succ, i64_w, i32_w]
   rfl
  refine one_ (i := 14) (N := some 29) (bq true [15, 43]).toArray rfl rfl (one_of HT_.out (by kernel_rfl)) (by decide) (fun K hK => ?_)
  refine goes_ Try.func31 (by kernel_rfl) rfl #[] (by rfl) rfl rfl (by (try simp only [List.map_toArray, List.map_cons, List.map_nil]); first | done | rfl | (simp only [List.length_drop, List.length_take]; rfl)) ?_
  with_reducible refine (lathelaw07_half.calls  t256 t257 t258 t259 t260 t261 t264 _ A14.out).mono ?_
  rintro e w88 ⟨v262, rfl, ho0, hb⟩
  have HS14_ := (hb.cell (World.block_lt_of_cell? _ _ (hHeld.2.2.2.2.2.2.2.2.2.2.2.2.2.2))).trans (hHeld.2.2.2.2.2.2.2.2.2.2.2.2.2.2)
  refine ⟨_, rfl, ?_⟩
  have HO263 := Aside0.mk (Kd.N_lower (Kd.N_mono (ok' := fun k_ => some k_ ≠ (.slice Ao65 t195.length co65 : Value).ownBlock ∧ some k_ ≠ (.slice Ao66 y199.length co66 : Value).ownBlock ∧ some k_ ≠ (.slice Ao70 t207.length co70 : Value).ownBlock ∧ some k_ ≠ (.slice Ao72 t218.length co72 : Value).ownBlock ∧ some k_ ≠ (v223 : Value).ownBlock ∧ some k_ ≠ (.slice Ao78 t230.length co78 : Value).ownBlock ∧ some k_ ≠ (.slice Ao82 t240.length co82 : Value).ownBlock ∧ some k_ ≠ (.slice Ao86 t251.length co86 : Value).ownBlock ∧ k_ ≠ gb212 ∧ k_ ≠ gb234) ho0 (fun k_ hk_ => ⟨(Kd.fresh' (Kd.N_lt (by (with_reducible repeat (first | apply Kd.N_alloc | apply Kd.N_drewN | apply Kd.N_drew)); exact HO197.out)) k_ hk_), (Kd.fresh' (Kd.R_lt (by (with_reducible repeat (first | apply Kd.R_alloc | apply Kd.R_drewN | apply Kd.R_drew)); exact HO201.out)) k_ hk_), (Kd.fresh' (Kd.N_lt (by (with_reducible repeat (first | apply Kd.N_alloc | apply Kd.N_drewN | apply Kd.N_drew)); exact HO209.out)) k_ hk_), (Kd.fresh' (Kd.N_lt (by (with_reducible repeat (first | apply Kd.N_alloc | apply Kd.N_drewN | apply Kd.N_drew)); exact HO220.out)) k_ hk_), (Kd.fresh' (Kd.R_lt (by (with_reducible repeat (first | apply Kd.R_alloc | apply Kd.R_drewN | apply Kd.R_drew)); exact HO224.out)) k_ hk_), (Kd.fresh' (Kd.N_lt (by (with_reducible repeat (first | apply Kd.N_alloc | apply Kd.N_drewN | apply Kd.N_drew)); exact HO232.out)) k_ hk_), (Kd.fresh' (Kd.N_lt (by (with_reducible repeat (first | apply Kd.N_alloc | apply Kd.N_drewN | apply Kd.N_drew)); exact HO242.out)) k_ hk_), (Kd.fresh' (Kd.N_lt (by (with_reducible repeat (first | apply Kd.N_alloc | apply Kd.N_drewN | apply Kd.N_drew)); exact HO253.out)) k_ hk_), (Kd.freshB (by (with_reducible repeat (first | refine blk_drewN ?_ _ | refine blk_drew ?_ | refine blk_alloc ?_ _)); exact BK212.out) k_ hk_), (Kd.freshB (g := gb234) (o := .cells #[.int .i64 t225, .string (⟨#[67, 104, 97, 105, 110]⟩ : ByteArray), .int .u32 t227, .int .i64 t228, .string t229, .slice Ao78 t230.length co78, .int .i64 t233] 26 (0, 0)) (by (with_reducible repeat (first | refine blk_drewN ?_ _ | refine blk_drew ?_ | refine blk_alloc ?_ _)); exact BK234.out) k_ hk_)⟩)) (below_size (by repeat (first | (with_reducible first | exact HB.out | apply below_alloc | apply pw_below_drewN | apply below_drew1 | refine below_set ?_ GE212.out | refine below_set ?_ GE234.out) | exact HB.out))))
  replace HO197 := Aside0.mk (Kd.N_elder' (by (with_reducible repeat (first | apply Kd.N_alloc | apply Kd.N_drewN | apply Kd.N_drew)); exact HO197.out) (by first | exact Kd.N_base ho0 | exact Kd.R_base ho0) hb)
  replace HO201 := Aside0.mk (Kd.R_below (by (with_reducible repeat (first | apply Kd.R_alloc | apply Kd.R_drewN | apply Kd.R_drew)); exact HO201.out) hb)
  replace HO209 := Aside0.mk (Kd.N_elder' (by (with_reducible repeat (first | apply Kd.N_alloc | apply Kd.N_drewN | apply Kd.N_drew)); exact HO209.out) (by first | exact Kd.N_base ho0 | exact Kd.R_base ho0) hb)
  replace HO220 := Aside0.mk (Kd.N_elder' (by (with_reducible repeat (first | apply Kd.N_alloc | apply Kd.N_drewN | apply Kd.N_drew)); exact HO220.out) (by first | exact Kd.N_base ho0 | exact Kd.R_base ho0) hb)
  replace HO224 := Aside0.mk (Kd.R_below (by (with_reducible repeat (first | apply Kd.R_alloc | apply Kd.R_drewN | apply Kd.R_drew)); exact HO224.out) hb)
  replace HO232 := Aside0.mk (Kd.N_elder' (by (with_reducible repeat (first | apply Kd.N_alloc | apply Kd.N_drewN | apply Kd.N_drew)); exact HO232.out) (by first | exact Kd.N_base ho0 | exact Kd.R_base ho0) hb)
  replace HO242 := Aside0.mk (Kd.N_elder' (by (with_reducible repeat (first | apply Kd.N_alloc | apply Kd.N_drewN | apply Kd.N_drew)); exact HO242.out) (by first | exact Kd.N_base ho0 | exact Kd.R_base ho0) hb)
  replace HO253 := Aside0.mk (Kd.N_elder' (by (with_reducible repeat (first | apply Kd.N_alloc | apply Kd.N_drewN | apply Kd.N_drew)); exact HO253.out) (by first | exact Kd.N_base ho0 | exact Kd.R_base ho0) hb)
  replace BK212 := Aside0.mk (blk_below (by (with_reducible repeat (first | refine blk_drewN ?_ _ | refine blk_drew ?_ | refine blk_alloc ?_ _)); exact BK212.out) hb)
  replace BK234 := Aside0.mk (blk_below (g := gb234) (o := .cells #[.int .i64 t225, .string (⟨#[67, 104, 97, 105, 110]⟩ : ByteArray), .int .u32 t227, .int .i64 t228, .string t229, .slice Ao78 t230.length co78, .int .i64 t233] 26 (0, 0)) (by (with_reducible repeat (first | refine blk_drewN ?_ _ | refine blk_drew ?_ | refine blk_alloc ?_ _)); exact BK234.out) hb)
  replace HB := Aside0.mk (below_step (by repeat (first | (with_reducible first | exact HB.out | apply below_alloc | apply pw_below_drewN | apply below_drew1 | refine below_set ?_ GE212.out | refine below_set ?_ GE234.out) | exact HB.out)) hb)
  (try clear hb)
  (try clear hb2)
  (try clear hk)
  (try clear hi)
  (try clear ho0)
  obtain ⟨Ao89, co89, eo89⟩ := Kd.N_slice HO263.out
  (first | subst eo89 | (injection eo89 with f1_ f2_ f3_; have f4_ := f1_.symm; have f5_ := f3_.symm; clear f1_ f2_ f3_; subst f4_; subst f5_))
  refine hK.out _ _ ⟨(blk_cell BK234.out 0).trans rfl, (blk_cell BK234.out 1).trans rfl, (blk_cell BK234.out 2).trans rfl, (blk_cell BK234.out 3).trans rfl, (blk_cell BK234.out 4).trans rfl, (blk_cell BK234.out 5).trans rfl, (blk_cell BK234.out 6).trans rfl, (blk_cell BK212.out 0).trans rfl, (blk_cell BK212.out 1).trans rfl, (blk_cell BK212.out 2).trans rfl, (blk_cell BK212.out 3).trans rfl, (blk_cell BK212.out 4).trans rfl, (blk_cell BK212.out 5).trans rfl, (blk_cell BK212.out 6).trans rfl, HS14_⟩ (fun hHeld => ?_)
  clear hK K
  refine norm_ (a' := ?_) ?_ ?_
  rotate_left
  ·show Act.put _ (some 29) _ = _
   simp only [Act.put, List.setIfInBounds_toArray, List.set_cons_zero, List.set_cons_succ, i64_w, i32_w]
   rfl
  refine one_ (i := 15) (N := some 30) (bq true [16, 42]).toArray rfl rfl (one_of HT_.out (by kernel_rfl)) (by decide) (fun K hK => ?_)
  refine goes_ Try.func21 (by kernel_rfl) rfl #[.agg #[.int .i64 t256, .string t257, .int .u32 t258, .int .i64 t259, .string t260, .slice Ao89 t261.length co89, .int .i64 t264]] (by rfl) rfl rfl (by (try simp only [List.map_toArray, List.map_cons, List.map_nil]); first | done | rfl | (simp only [List.length_drop, List.length_take]; rfl)) ?_
  with_reducible refine (tree_Depth.calls k t256 t257 t258 t259 t260 _ _ t261 t264 t265 _ ?side1 ?side2 A15.out).mono ?_
  (case side1 => repeat (first | exact (Kd.N_reads' HO263.out).2.2 | (with_reducible refine Kd.C_alloc ?_ _) | (with_reducible refine Kd.C_drewN ?_ _) | (with_reducible refine Kd.C_drew ?_)))
  (case side2 => exact (Kd.N_reads' HO263.out).2.1)
  rintro e w90 ⟨rfl, hb⟩
  have HS14_ := (hb.cell (World.block_lt_of_cell? _ _ (hHeld.2.2.2.2.2.2.2.2.2.2.2.2.2.2))).trans (hHeld.2.2.2.2.2.2.2.2.2.2.2.2.2.2)
  refine ⟨_, rfl, ?_⟩
  replace HO197 := Aside0.mk (Kd.N_below (by (with_reducible repeat (first | apply Kd.N_alloc | apply Kd.N_drewN | apply Kd.N_drew)); exact HO197.out) hb)
  replace HO201 := Aside0.mk (Kd.R_below (by (with_reducible repeat (first | apply Kd.R_alloc | apply Kd.R_drewN | apply Kd.R_drew)); exact HO201.out) hb)
  replace HO209 := Aside0.mk (Kd.N_below (by (with_reducible repeat (first | apply Kd.N_alloc | apply Kd.N_drewN | apply Kd.N_drew)); exact HO209.out) hb)
  replace HO220 := Aside0.mk (Kd.N_below (by (with_reducible repeat (first | apply Kd.N_alloc | apply Kd.N_drewN | apply Kd.N_drew)); exact HO220.out) hb)
  replace HO224 := Aside0.mk (Kd.R_below (by (with_reducible repeat (first | apply Kd.R_alloc | apply Kd.R_drewN | apply Kd.R_drew)); exact HO224.out) hb)
  replace HO232 := Aside0.mk (Kd.N_below (by (with_reducible repeat (first | apply Kd.N_alloc | apply Kd.N_drewN | apply Kd.N_drew)); exact HO232.out) hb)
  replace HO242 := Aside0.mk (Kd.N_below (by (with_reducible repeat (first | apply Kd.N_alloc | apply Kd.N_drewN | apply Kd.N_drew)); exact HO242.out) hb)
  replace HO253 := Aside0.mk (Kd.N_below (by (with_reducible repeat (first | apply Kd.N_alloc | apply Kd.N_drewN | apply Kd.N_drew)); exact HO253.out) hb)
  replace HO263 := Aside0.mk (Kd.N_below (by (with_reducible repeat (first | apply Kd.N_alloc | apply Kd.N_drewN | apply Kd.N_drew)); exact HO263.out) hb)
  replace BK212 := Aside0.mk (blk_below (by (with_reducible repeat (first | refine blk_drewN ?_ _ | refine blk_drew ?_ | refine blk_alloc ?_ _)); exact BK212.out) hb)
  replace BK234 := Aside0.mk (blk_below (g := gb234) (o := .cells #[.int .i64 t225, .string (⟨#[67, 104, 97, 105, 110]⟩ : ByteArray), .int .u32 t227, .int .i64 t228, .string t229, .slice Ao78 t230.length co78, .int .i64 t233] 26 (0, 0)) (by (with_reducible repeat (first | refine blk_drewN ?_ _ | refine blk_drew ?_ | refine blk_alloc ?_ _)); exact BK234.out) hb)
  replace HB := Aside0.mk (below_step (by repeat (first | (with_reducible first | exact HB.out | apply below_alloc | apply pw_below_drewN | apply below_drew1 | refine below_set ?_ GE212.out | refine below_set ?_ GE234.out) | exact HB.out)) hb)
  (try clear hb)
  (try clear hb2)
  (try clear hk)
  (try clear hi)
  obtain ⟨Ao91, co91, eo91⟩ := Kd.R_slice HO224.out
  (first | subst eo91 | (injection eo91 with f1_ f2_ f3_; have f4_ := f1_.symm; have f5_ := f3_.symm; clear f1_ f2_ f3_; subst f4_; subst f5_))
  injection eq266_ with f1_ f2_ f3_; subst f1_; subst f3_; clear f2_
  refine hK.out _ _ ⟨(blk_cell BK234.out 0).trans rfl, (blk_cell BK234.out 1).trans rfl, (blk_cell BK234.out 2).trans rfl, (blk_cell BK234.out 3).trans rfl, (blk_cell BK234.out 4).trans rfl, (blk_cell BK234.out 5).trans rfl, (blk_cell BK234.out 6).trans rfl, (blk_cell BK212.out 0).trans rfl, (blk_cell BK212.out 1).trans rfl, (blk_cell BK212.out 2).trans rfl, (blk_cell BK212.out 3).trans rfl, (blk_cell BK212.out 4).trans rfl, (blk_cell BK212.out 5).trans rfl, (blk_cell BK212.out 6).trans rfl, HS14_⟩ (fun hHeld => ?_)
  clear hK K
  refine norm_ (a' := ?_) ?_ ?_
  rotate_left
  ·show Act.put _ (some 30) _ = _
   simp only [Act.put, List.setIfInBounds_toArray, List.set_cons_zero, List.set_cons_succ, i64_w, i32_w]
   rfl
  refine pure_ (i := 16) (N := some 31) (v := ?_) (a' := ?_) (bq true [17, 41]).toArray rfl rfl (any_of HT_.out (by kernel_rfl)) (fun _ _ _ h => h) (Or.inl ⟨by rfl, ?_⟩) ?_ ?_
  rotate_left
  ·intro w'
   go_simp
   with_reducible rfl
  rotate_left
  ·simp only [Act.put, List.setIfInBounds_toArray, List.set_cons_zero, List.set_cons_succ, i64_w, i32_w]
   rfl
  refine pure_ (i := 17) (N := some 32) (v := ?_) (a' := ?_) (bq true [18, 40]).toArray rfl rfl (any_of HT_.out (by kernel_rfl)) (fun _ _ _ h => h) (Or.inl ⟨by rfl, ?_⟩) ?_ ?_
  rotate_left
  ·intro w'
   go_simp
   with_reducible rfl
  rotate_left
  ·simp only [Act.put, List.setIfInBounds_toArray, List.set_cons_zero, List.set_cons_succ, i64_w, i32_w]
   rfl
  refine pure_ (i := 18) (N := some 33) (v := ?_) (a' := ?_) (bq true [19, 39]).toArray rfl rfl (any_of HT_.out (by kernel_rfl)) (fun _ _ _ h => h) (Or.inl ⟨by rfl, ?_⟩) ?_ ?_
  rotate_left
  ·intro w'
   go_simp
   with_reducible rfl
  rotate_left
  ·simp only [Act.put, List.setIfInBounds_toArray, List.set_cons_zero, List.set_cons_succ, i64_w, i32_w]
   rfl
  refine pure_ (i := 19) (N := some 34) (v := ?_) (a' := ?_) (bq true [20, 38]).toArray rfl rfl (any_of HT_.out (by kernel_rfl)) (fun _ _ _ h => h) (Or.inl ⟨by rfl, ?_⟩) ?_ ?_
  rotate_left
  ·intro w'
   go_simp
   with_reducible rfl
  rotate_left
  ·simp only [Act.put, List.setIfInBounds_toArray, List.set_cons_zero, List.set_cons_succ, i64_w, i32_w]
   rfl
  refine pure_ (i := 20) (N := some 35) (v := ?_) (a' := ?_) (bq true [21, 37]).toArray rfl rfl (any_of HT_.out (by kernel_rfl)) (fun _ _ _ h => h) (Or.inl ⟨by rfl, ?_⟩) ?_ ?_
  rotate_left
  ·intro w'
   go_simp
   with_reducible rfl
  rotate_left
  ·simp only [Act.put, List.setIfInBounds_toArray, List.set_cons_zero, List.set_cons_succ, i64_w, i32_w]
   rfl
  refine pure_ (i := 21) (N := some 36) (v := ?_) (a' := ?_) (bq true [22, 36]).toArray rfl rfl (any_of HT_.out (by kernel_rfl)) (fun _ _ _ h => h) (Or.inl ⟨by rfl, ?_⟩) ?_ ?_
  rotate_left
  ·intro w'
   go_simp
   with_reducible rfl
  rotate_left
  ·simp only [Act.put, List.setIfInBounds_toArray, List.set_cons_zero, List.set_cons_succ, i64_w, i32_w]
   rfl
  refine pure_ (i := 22) (N := some 37) (v := ?_) (a' := ?_) (bq true [23, 35]).toArray rfl rfl (any_of HT_.out (by kernel_rfl)) (fun _ _ _ h => h) (Or.inl ⟨by rfl, ?_⟩) ?_ ?_
  rotate_left
  ·intro w'
   go_simp
   with_reducible rfl
  rotate_left
  ·simp only [Act.put, List.setIfInBounds_toArray, List.set_cons_zero, List.set_cons_succ, i64_w, i32_w]
   rfl
  refine take_ (i := 23) (N := some 38) (v := ?_) (a' := ?_) (bq true [24, 34]).toArray rfl rfl (take_ofW HT_.out HW_.out (by kernel_rfl)) (fun _ _ _ h => h) (Or.inl ⟨by rfl, ?_⟩) hHeld ?_ ?_
  rotate_left
  ·rintro w' ⟨s0, s1, s2, s3, s4, s5, s6, s7, s8, s9, s10, s11, s12, s13, s14⟩
   go_simp
   with_reducible rfl
  rotate_left
  ·simp only [Act.put, List.setIfInBounds_toArray, List.set_cons_zero, List.set_cons_succ, i64_w, i32_w]
   rfl
  refine pure_ (i := 24) (N := some 39) (v := ?_) (a' := ?_) (bq true [25, 33]).toArray rfl rfl (any_of HT_.out (by kernel_rfl)) (fun _ _ _ h => h) (Or.inl ⟨by rfl, ?_⟩) ?_ ?_
  rotate_left
  ·intro w'
   go_simp
   with_reducible rfl
  rotate_left
  ·simp only [Act.put, List.setIfInBounds_toArray, List.set_cons_zero, List.set_cons_succ, i64_w, i32_w]
   rfl
  refine pure_ (i := 25) (N := some 40) (v := ?_) (a' := ?_) (bq true [26, 32]).toArray rfl rfl (any_of HT_.out (by kernel_rfl)) (fun _ _ _ h => h) (Or.inl ⟨by rfl, ?_⟩) ?_ ?_
  rotate_left
  ·intro w'
   go_simp
   with_reducible rfl
  rotate_left
  ·simp only [Act.put, List.setIfInBounds_toArray, List.set_cons_zero, List.set_cons_succ, i64_w, i32_w]
   rfl
  refine pure_ (i := 26) (N := some 41) (v := ?_) (a' := ?_) (bq true [27, 31]).toArray rfl rfl (any_of HT_.out (by kernel_rfl)) (fun _ _ _ h => h) (Or.inl ⟨by rfl, ?_⟩) ?_ ?_
  rotate_left
  ·intro w'
   go_simp
   with_reducible rfl
  rotate_left
  ·simp only [Act.put, List.setIfInBounds_toArray, List.set_cons_zero, List.set_cons_succ, i64_w, i32_w]
   rfl
  refine pure_ (i := 27) (N := some 42) (v := ?_) (a' := ?_) (bq true [28, 30]).toArray rfl rfl (any_of HT_.out (by kernel_rfl)) (fun _ _ _ h => h) (Or.inl ⟨by rfl, ?_⟩) ?_ ?_
  rotate_left
  ·intro w'
   go_simp
   with_reducible rfl
  rotate_left
  ·simp only [Act.put, List.setIfInBounds_toArray, List.set_cons_zero, List.set_cons_succ, i64_w, i32_w]
   rfl
  refine take_ (i := 28) (N := some 43) (v := ?_) (a' := ?_) (bq true [29, 29]).toArray rfl rfl (take_ofW HT_.out HW_.out (by kernel_rfl)) (fun _ _ _ h => h) (Or.inl ⟨by rfl, ?_⟩) hHeld ?_ ?_
  rotate_left
  ·rintro w' ⟨s0, s1, s2, s3, s4, s5, s6, s7, s8, s9, s10, s11, s12, s13, s14⟩
   go_simp
   with_reducible rfl
  rotate_left
  ·simp only [Act.put, List.setIfInBounds_toArray, List.set_cons_zero, List.set_cons_succ, i64_w, i32_w]
   rfl
  refine pure_ (i := 29) (N := some 44) (v := ?_) (a' := ?_) (bq true [30, 28]).toArray rfl rfl (any_of HT_.out (by kernel_rfl)) (fun _ _ _ h => h) (Or.inl ⟨by rfl, ?_⟩) ?_ ?_
  rotate_left
  ·intro w'
   go_simp
   with_reducible rfl
  rotate_left
  ·simp only [Act.put, List.setIfInBounds_toArray, List.set_cons_zero, List.set_cons_succ, i64_w, i32_w]
   rfl
  refine pure_ (i := 30) (N := some 45) (v := ?_) (a' := ?_) (bq true [31, 27]).toArray rfl rfl (any_of HT_.out (by kernel_rfl)) (fun _ _ _ h => h) (Or.inl ⟨by rfl, ?_⟩) ?_ ?_
  rotate_left
  ·intro w'
   go_simp
   with_reducible rfl
  rotate_left
  ·simp only [Act.put, List.setIfInBounds_toArray, List.set_cons_zero, List.set_cons_succ, i64_w, i32_w]
   rfl
  refine pure_ (i := 31) (N := some 46) (v := ?_) (a' := ?_) (bq true [32, 26]).toArray rfl rfl (any_of HT_.out (by kernel_rfl)) (fun _ _ _ h => h) (Or.inl ⟨by rfl, ?_⟩) ?_ ?_
  rotate_left
  ·intro w'
   go_simp
   with_reducible rfl
  rotate_left
  ·simp only [Act.put, List.setIfInBounds_toArray, List.set_cons_zero, List.set_cons_succ, i64_w, i32_w]
   rfl
  refine pure_ (i := 32) (N := some 47) (v := ?_) (a' := ?_) (bq true [33, 25]).toArray rfl rfl (any_of HT_.out (by kernel_rfl)) (fun _ _ _ h => h) (Or.inl ⟨by rfl, ?_⟩) ?_ ?_
  rotate_left
  ·intro w'
   go_simp
   with_reducible rfl
  rotate_left
  ·simp only [Act.put, List.setIfInBounds_toArray, List.set_cons_zero, List.set_cons_succ, i64_w, i32_w]
   rfl
  refine pure_ (i := 33) (N := some 48) (v := ?_) (a' := ?_) (bq true [34, 24]).toArray rfl rfl (any_of HT_.out (by kernel_rfl)) (fun _ _ _ h => h) (Or.inl ⟨by rfl, ?_⟩) ?_ ?_
  rotate_left
  ·intro w'
   go_simp
   with_reducible rfl
  rotate_left
  ·simp only [Act.put, List.setIfInBounds_toArray, List.set_cons_zero, List.set_cons_succ, i64_w, i32_w]
   rfl
  refine pure_ (i := 34) (N := some 49) (v := ?_) (a' := ?_) (bq true [35, 23]).toArray rfl rfl (any_of HT_.out (by kernel_rfl)) (fun _ _ _ h => h) (Or.inl ⟨by rfl, ?_⟩) ?_ ?_
  rotate_left
  ·intro w'
   go_simp
   with_reducible rfl
  rotate_left
  ·simp only [Act.put, List.setIfInBounds_toArray, List.set_cons_zero, List.set_cons_succ, i64_w, i32_w]
   rfl
  refine pure_ (i := 35) (N := some 50) (v := ?_) (a' := ?_) (bq true [36, 22]).toArray rfl rfl (any_of HT_.out (by kernel_rfl)) (fun _ _ _ h => h) (Or.inl ⟨by rfl, ?_⟩) ?_ ?_
  rotate_left
  ·intro w'
   go_simp
   with_reducible rfl
  rotate_left
  ·simp only [Act.put, List.setIfInBounds_toArray, List.set_cons_zero, List.set_cons_succ, i64_w, i32_w]
   rfl
  refine pure_ (i := 36) (N := some 51) (v := ?_) (a' := ?_) (bq true [37, 21]).toArray rfl rfl (any_of HT_.out (by kernel_rfl)) (fun _ _ _ h => h) (Or.inl ⟨by rfl, ?_⟩) ?_ ?_
  rotate_left
  ·intro w'
   go_simp
   with_reducible rfl
  rotate_left
  ·simp only [Act.put, List.setIfInBounds_toArray, List.set_cons_zero, List.set_cons_succ, i64_w, i32_w]
   rfl
  refine pure_ (i := 37) (N := some 52) (v := ?_) (a' := ?_) (bq true [38, 20]).toArray rfl rfl (any_of HT_.out (by kernel_rfl)) (fun _ _ _ h => h) (Or.inl ⟨by rfl, ?_⟩) ?_ ?_
  rotate_left
  ·intro w'
   go_simp
   with_reducible rfl
  rotate_left
  ·simp only [Act.put, List.setIfInBounds_toArray, List.set_cons_zero, List.set_cons_succ, i64_w, i32_w]
   rfl
  refine pure_ (i := 38) (N := some 53) (v := ?_) (a' := ?_) (bq true [39, 19]).toArray rfl rfl (any_of HT_.out (by kernel_rfl)) (fun _ _ _ h => h) (Or.inl ⟨by rfl, ?_⟩) ?_ ?_
  rotate_left
  ·intro w'
   go_simp
   with_reducible rfl
  rotate_left
  ·simp only [Act.put, List.setIfInBounds_toArray, List.set_cons_zero, List.set_cons_succ, i64_w, i32_w]
   rfl
  refine take_ (i := 39) (N := some 54) (v := ?_) (a' := ?_) (bq true [40, 18]).toArray rfl rfl (take_ofW HT_.out HW_.out (by kernel_rfl)) (fun _ _ _ h => h) (Or.inl ⟨by rfl, ?_⟩) hHeld ?_ ?_
  rotate_left
  ·rintro w' ⟨s0, s1, s2, s3, s4, s5, s6, s7, s8, s9, s10, s11, s12, s13, s14⟩
   go_simp
   with_reducible rfl
  rotate_left
  ·simp only [Act.put, List.setIfInBounds_toArray, List.set_cons_zero, List.set_cons_succ, i64_w, i32_w]
   rfl
  refine pure_ (i := 40) (N := some 55) (v := ?_) (a' := ?_) (bq true [41, 17]).toArray rfl rfl (any_of HT_.out (by kernel_rfl)) (fun _ _ _ h => h) (Or.inl ⟨by rfl, ?_⟩) ?_ ?_
  rotate_left
  ·intro w'
   go_simp
   with_reducible rfl
  rotate_left
  ·simp only [Act.put, List.setIfInBounds_toArray, List.set_cons_zero, List.set_cons_succ, i64_w, i32_w]
   rfl
  refine pure_ (i := 41) (N := some 56) (v := ?_) (a' := ?_) (bq true [42, 16]).toArray rfl rfl (any_of HT_.out (by kernel_rfl)) (fun _ _ _ h => h) (Or.inl ⟨by rfl, ?_⟩) ?_ ?_
  rotate_left
  ·intro w'
   go_simp
   with_reducible rfl
  rotate_left
  ·simp only [Act.put, List.setIfInBounds_toArray, List.set_cons_zero, List.set_cons_succ, i64_w, i32_w]
   rfl
  refine pure_ (i := 42) (N := some 57) (v := ?_) (a' := ?_) (bq true [43, 15]).toArray rfl rfl (any_of HT_.out (by kernel_rfl)) (fun _ _ _ h => h) (Or.inl ⟨by rfl, ?_⟩) ?_ ?_
  rotate_left
  ·intro w'
   go_simp
   with_reducible rfl
  rotate_left
  ·simp only [Act.put, List.setIfInBounds_toArray, List.set_cons_zero, List.set_cons_succ, i64_w, i32_w]
   rfl
  refine take_ (i := 44) (N := some 59) (v := ?_) (a' := ?_) (bq true [43, 1, 1, 13]).toArray rfl rfl (take_ofW HT_.out HW_.out (by kernel_rfl)) (fun _ _ _ h => h) (Or.inl ⟨by rfl, ?_⟩) hHeld ?_ ?_
  rotate_left
  ·rintro w' ⟨s0, s1, s2, s3, s4, s5, s6, s7, s8, s9, s10, s11, s12, s13, s14⟩
   go_simp
   with_reducible rfl
  rotate_left
  ·simp only [Act.put, List.setIfInBounds_toArray, List.set_cons_zero, List.set_cons_succ, i64_w, i32_w]
   rfl
  refine one_ (i := 43) (N := some 58) (bq true [45, 13]).toArray rfl rfl (one_of HT_.out (by kernel_rfl)) (by decide) (fun K hK => ?_)
  refine goes_ Try.func31 (by kernel_rfl) rfl #[] (by rfl) rfl rfl (by (try simp only [List.map_toArray, List.map_cons, List.map_nil]); first | done | rfl | (simp only [List.length_drop, List.length_take]; rfl)) ?_
  with_reducible refine (lathelaw07_half.calls  t267 t268 t269 t270 t271 t272 t275 _ A23.out).mono ?_
  rintro e w92 ⟨v273, rfl, ho0, hb⟩
  have HS14_ := (hb.cell (World.block_lt_of_cell? _ _ (hHeld.2.2.2.2.2.2.2.2.2.2.2.2.2.2))).trans (hHeld.2.2.2.2.2.2.2.2.2.2.2.2.2.2)
  refine ⟨_, rfl, ?_⟩
  have HO274 := Aside0.mk (Kd.N_lower (Kd.N_mono (ok' := fun k_ => some k_ ≠ (.slice Ao65 t195.length co65 : Value).ownBlock ∧ some k_ ≠ (.slice Ao66 y199.length co66 : Value).ownBlock ∧ some k_ ≠ (.slice Ao70 t207.length co70 : Value).ownBlock ∧ some k_ ≠ (.slice Ao72 t218.length co72 : Value).ownBlock ∧ some k_ ≠ (.slice (some ad266) t222.length co91 : Value).ownBlock ∧ some k_ ≠ (.slice Ao78 t230.length co78 : Value).ownBlock ∧ some k_ ≠ (.slice Ao82 t240.length co82 : Value).ownBlock ∧ some k_ ≠ (.slice Ao86 t251.length co86 : Value).ownBlock ∧ some k_ ≠ (.slice Ao89 t261.length co89 : Value).ownBlock ∧ k_ ≠ gb212 ∧ k_ ≠ gb234) ho0 (fun k_ hk_ => ⟨(Kd.fresh' (Kd.N_lt (by (with_reducible repeat (first | apply Kd.N_alloc | apply Kd.N_drewN | apply Kd.N_drew)); exact HO197.out)) k_ hk_), (Kd.fresh' (Kd.R_lt (by (with_reducible repeat (first | apply Kd.R_alloc | apply Kd.R_drewN | apply Kd.R_drew)); exact HO201.out)) k_ hk_), (Kd.fresh' (Kd.N_lt (by (with_reducible repeat (first | apply Kd.N_alloc | apply Kd.N_drewN | apply Kd.N_drew)); exact HO209.out)) k_ hk_), (Kd.fresh' (Kd.N_lt (by (with_reducible repeat (first | apply Kd.N_alloc | apply Kd.N_drewN | apply Kd.N_drew)); exact HO220.out)) k_ hk_), (Kd.fresh' (Kd.R_lt (by (with_reducible repeat (first | apply Kd.R_alloc | apply Kd.R_drewN | apply Kd.R_drew)); exact HO224.out)) k_ hk_), (Kd.fresh' (Kd.N_lt (by (with_reducible repeat (first | apply Kd.N_alloc | apply Kd.N_drewN | apply Kd.N_drew)); exact HO232.out)) k_ hk_), (Kd.fresh' (Kd.N_lt (by (with_reducible repeat (first | apply Kd.N_alloc | apply Kd.N_drewN | apply Kd.N_drew)); exact HO242.out)) k_ hk_), (Kd.fresh' (Kd.N_lt (by (with_reducible repeat (first | apply Kd.N_alloc | apply Kd.N_drewN | apply Kd.N_drew)); exact HO253.out)) k_ hk_), (Kd.fresh' (Kd.N_lt (by (with_reducible repeat (first | apply Kd.N_alloc | apply Kd.N_drewN | apply Kd.N_drew)); exact HO263.out)) k_ hk_), (Kd.freshB (by (with_reducible repeat (first | refine blk_drewN ?_ _ | refine blk_drew ?_ | refine blk_alloc ?_ _)); exact BK212.out) k_ hk_), (Kd.freshB (g := gb234) (o := .cells #[.int .i64 t225, .string (⟨#[67, 104, 97, 105, 110]⟩ : ByteArray), .int .u32 t227, .int .i64 t228, .string t229, .slice Ao78 t230.length co78, .int .i64 t233] 26 (0, 0)) (by (with_reducible repeat (first | refine blk_drewN ?_ _ | refine blk_drew ?_ | refine blk_alloc ?_ _)); exact BK234.out) k_ hk_)⟩)) (below_size (by repeat (first | (with_reducible first | exact HB.out | apply below_alloc | apply pw_below_drewN | apply below_drew1 | refine below_set ?_ GE212.out | refine below_set ?_ GE234.out) | exact HB.out))))
  replace HO197 := Aside0.mk (Kd.N_elder' (by (with_reducible repeat (first | apply Kd.N_alloc | apply Kd.N_drewN | apply Kd.N_drew)); exact HO197.out) (by first | exact Kd.N_base ho0 | exact Kd.R_base ho0) hb)
  replace HO201 := Aside0.mk (Kd.R_below (by (with_reducible repeat (first | apply Kd.R_alloc | apply Kd.R_drewN | apply Kd.R_drew)); exact HO201.out) hb)
  replace HO209 := Aside0.mk (Kd.N_elder' (by (with_reducible repeat (first | apply Kd.N_alloc | apply Kd.N_drewN | apply Kd.N_drew)); exact HO209.out) (by first | exact Kd.N_base ho0 | exact Kd.R_base ho0) hb)
  replace HO220 := Aside0.mk (Kd.N_elder' (by (with_reducible repeat (first | apply Kd.N_alloc | apply Kd.N_drewN | apply Kd.N_drew)); exact HO220.out) (by first | exact Kd.N_base ho0 | exact Kd.R_base ho0) hb)
  replace HO224 := Aside0.mk (Kd.R_below (by (with_reducible repeat (first | apply Kd.R_alloc | apply Kd.R_drewN | apply Kd.R_drew)); exact HO224.out) hb)
  replace HO232 := Aside0.mk (Kd.N_elder' (by (with_reducible repeat (first | apply Kd.N_alloc | apply Kd.N_drewN | apply Kd.N_drew)); exact HO232.out) (by first | exact Kd.N_base ho0 | exact Kd.R_base ho0) hb)
  replace HO242 := Aside0.mk (Kd.N_elder' (by (with_reducible repeat (first | apply Kd.N_alloc | apply Kd.N_drewN | apply Kd.N_drew)); exact HO242.out) (by first | exact Kd.N_base ho0 | exact Kd.R_base ho0) hb)
  replace HO253 := Aside0.mk (Kd.N_elder' (by (with_reducible repeat (first | apply Kd.N_alloc | apply Kd.N_drewN | apply Kd.N_drew)); exact HO253.out) (by first | exact Kd.N_base ho0 | exact Kd.R_base ho0) hb)
  replace HO263 := Aside0.mk (Kd.N_elder' (by (with_reducible repeat (first | apply Kd.N_alloc | apply Kd.N_drewN | apply Kd.N_drew)); exact HO263.out) (by first | exact Kd.N_base ho0 | exact Kd.R_base ho0) hb)
  replace BK212 := Aside0.mk (blk_below (by (with_reducible repeat (first | refine blk_drewN ?_ _ | refine blk_drew ?_ | refine blk_alloc ?_ _)); exact BK212.out) hb)
  replace BK234 := Aside0.mk (blk_below (g := gb234) (o := .cells #[.int .i64 t225, .string (⟨#[67, 104, 97, 105, 110]⟩ : ByteArray), .int .u32 t227, .int .i64 t228, .string t229, .slice Ao78 t230.length co78, .int .i64 t233] 26 (0, 0)) (by (with_reducible repeat (first | refine blk_drewN ?_ _ | refine blk_drew ?_ | refine blk_alloc ?_ _)); exact BK234.out) hb)
  replace HB := Aside0.mk (below_step (by repeat (first | (with_reducible first | exact HB.out | apply below_alloc | apply pw_below_drewN | apply below_drew1 | refine below_set ?_ GE212.out | refine below_set ?_ GE234.out) | exact HB.out)) hb)
  (try clear hb)
  (try clear hb2)
  (try clear hk)
  (try clear hi)
  (try clear ho0)
  obtain ⟨Ao93, co93, eo93⟩ := Kd.N_slice HO274.out
  (first | subst eo93 | (injection eo93 with f1_ f2_ f3_; have f4_ := f1_.symm; have f5_ := f3_.symm; clear f1_ f2_ f3_; subst f4_; subst f5_))
  refine hK.out _ _ ⟨(blk_cell BK234.out 0).trans rfl, (blk_cell BK234.out 1).trans rfl, (blk_cell BK234.out 2).trans rfl, (blk_cell BK234.out 3).trans rfl, (blk_cell BK234.out 4).trans rfl, (blk_cell BK234.out 5).trans rfl, (blk_cell BK234.out 6).trans rfl, (blk_cell BK212.out 0).trans rfl, (blk_cell BK212.out 1).trans rfl, (blk_cell BK212.out 2).trans rfl, (blk_cell BK212.out 3).trans rfl, (blk_cell BK212.out 4).trans rfl, (blk_cell BK212.out 5).trans rfl, (blk_cell BK212.out 6).trans rfl, HS14_⟩ (fun hHeld => ?_)
  clear hK K
  refine norm_ (a' := ?_) ?_ ?_
  rotate_left
  ·show Act.put _ (some 58) _ = _
   simp only [Act.put, List.setIfInBounds_toArray, List.set_cons_zero, List.set_cons_succ, i64_w, i32_w]
   rfl
  refine one_ (i := 45) (N := some 60) (bq true [46, 12]).toArray rfl rfl (one_of HT_.out (by kernel_rfl)) (by decide) (fun K hK => ?_)
  refine goes_ Try.func16 (by kernel_rfl) rfl #[.agg #[.int .i64 t267, .string t268, .int .u32 t269, .int .i64 t270, .string t271, .slice Ao93 t272.length co93, .int .i64 t275], .agg #[.int .i64 t225, .string (⟨#[67, 104, 97, 105, 110]⟩ : ByteArray), .int .u32 t227, .int .i64 t228, .string t229, .slice Ao78 t230.length co78, .int .i64 t233]] (by rfl) rfl rfl (by (try simp only [List.map_toArray, List.map_cons, List.map_nil]); first | done | rfl | (simp only [List.length_drop, List.length_take]; rfl)) ?_
  with_reducible refine (tree_Equal.calls k t267 t268 t269 t270 t271 _ _ t272 t275 t225 (⟨#[67, 104, 97, 105, 110]⟩ : ByteArray) t227 t228 t229 _ _ t230 t233 false _ ?side1 ?side2 ?side3 ?side4 A24.out).mono ?_
  (case side1 => repeat (first | exact (Kd.N_reads' HO274.out).2.2 | (with_reducible refine Kd.C_alloc ?_ _) | (with_reducible refine Kd.C_drewN ?_ _) | (with_reducible refine Kd.C_drew ?_)))
  (case side2 => exact (Kd.N_reads' HO274.out).2.1)
  (case side3 => repeat (first | exact (Kd.N_reads' HO232.out).2.2 | (with_reducible refine Kd.C_alloc ?_ _) | (with_reducible refine Kd.C_drewN ?_ _) | (with_reducible refine Kd.C_drew ?_)))
  (case side4 => exact (Kd.N_reads' HO232.out).2.1)
  rintro e w94 ⟨rfl, hb⟩
  have HS14_ := (hb.cell (World.block_lt_of_cell? _ _ (hHeld.2.2.2.2.2.2.2.2.2.2.2.2.2.2))).trans (hHeld.2.2.2.2.2.2.2.2.2.2.2.2.2.2)
  refine ⟨_, rfl, ?_⟩
  replace HO197 := Aside0.mk (Kd.N_below (by (with_reducible repeat (first | apply Kd.N_alloc | apply Kd.N_drewN | apply Kd.N_drew)); exact HO197.out) hb)
  replace HO201 := Aside0.mk (Kd.R_below (by (with_reducible repeat (first | apply Kd.R_alloc | apply Kd.R_drewN | apply Kd.R_drew)); exact HO201.out) hb)
  replace HO209 := Aside0.mk (Kd.N_below (by (with_reducible repeat (first | apply Kd.N_alloc | apply Kd.N_drewN | apply Kd.N_drew)); exact HO209.out) hb)
  replace HO220 := Aside0.mk (Kd.N_below (by (with_reducible repeat (first | apply Kd.N_alloc | apply Kd.N_drewN | apply Kd.N_drew)); exact HO220.out) hb)
  replace HO224 := Aside0.mk (Kd.R_below (by (with_reducible repeat (first | apply Kd.R_alloc | apply Kd.R_drewN | apply Kd.R_drew)); exact HO224.out) hb)
  replace HO232 := Aside0.mk (Kd.N_below (by (with_reducible repeat (first | apply Kd.N_alloc | apply Kd.N_drewN | apply Kd.N_drew)); exact HO232.out) hb)
  replace HO242 := Aside0.mk (Kd.N_below (by (with_reducible repeat (first | apply Kd.N_alloc | apply Kd.N_drewN | apply Kd.N_drew)); exact HO242.out) hb)
  replace HO253 := Aside0.mk (Kd.N_below (by (with_reducible repeat (first | apply Kd.N_alloc | apply Kd.N_drewN | apply Kd.N_drew)); exact HO253.out) hb)
  replace HO263 := Aside0.mk (Kd.N_below (by (with_reducible repeat (first | apply Kd.N_alloc | apply Kd.N_drewN | apply Kd.N_drew)); exact HO263.out) hb)
  replace HO274 := Aside0.mk (Kd.N_below (by (with_reducible repeat (first | apply Kd.N_alloc | apply Kd.N_drewN | apply Kd.N_drew)); exact HO274.out) hb)
  replace BK212 := Aside0.mk (blk_below (by (with_reducible repeat (first | refine blk_drewN ?_ _ | refine blk_drew ?_ | refine blk_alloc ?_ _)); exact BK212.out) hb)
  replace BK234 := Aside0.mk (blk_below (g := gb234) (o := .cells #[.int .i64 t225, .string (⟨#[67, 104, 97, 105, 110]⟩ : ByteArray), .int .u32 t227, .int .i64 t228, .string t229, .slice Ao78 t230.length co78, .int .i64 t233] 26 (0, 0)) (by (with_reducible repeat (first | refine blk_drewN ?_ _ | refine blk_drew ?_ | refine blk_alloc ?_ _)); exact BK234.out) hb)
  replace HB := Aside0.mk (below_step (by repeat (first | (with_reducible first | exact HB.out | apply below_alloc | apply pw_below_drewN | apply below_drew1 | refine below_set ?_ GE212.out | refine below_set ?_ GE234.out) | exact HB.out)) hb)
  (try clear hb)
  (try clear hb2)
  (try clear hk)
  (try clear hi)
  refine hK.out _ _ ⟨(blk_cell BK234.out 0).trans rfl, (blk_cell BK234.out 1).trans rfl, (blk_cell BK234.out 2).trans rfl, (blk_cell BK234.out 3).trans rfl, (blk_cell BK234.out 4).trans rfl, (blk_cell BK234.out 5).trans rfl, (blk_cell BK234.out 6).trans rfl, (blk_cell BK212.out 0).trans rfl, (blk_cell BK212.out 1).trans rfl, (blk_cell BK212.out 2).trans rfl, (blk_cell BK212.out 3).trans rfl, (blk_cell BK212.out 4).trans rfl, (blk_cell BK212.out 5).trans rfl, (blk_cell BK212.out 6).trans rfl, HS14_⟩ (fun hHeld => ?_)
  clear hK K
  refine norm_ (a' := ?_) ?_ ?_
  rotate_left
  ·show Act.put _ (some 60) _ = _
   simp only [Act.put, List.setIfInBounds_toArray, List.set_cons_zero, List.set_cons_succ, i64_w, i32_w]
   rfl
  refine pure_ (i := 46) (N := some 61) (v := ?_) (a' := ?_) (bq true [47, 11]).toArray rfl rfl (any_of HT_.out (by kernel_rfl)) (fun _ _ _ h => h) (Or.inl ⟨by rfl, ?_⟩) ?_ ?_
  rotate_left
  ·intro w'
   go_simp
   with_reducible rfl
  rotate_left
  ·simp only [Act.put, List.setIfInBounds_toArray, List.set_cons_zero, List.set_cons_succ, i64_w, i32_w]
   rfl
  refine pure_ (i := 47) (N := some 62) (v := ?_) (a' := ?_) (bq true [48, 10]).toArray rfl rfl (any_of HT_.out (by kernel_rfl)) (fun _ _ _ h => h) (Or.inl ⟨by rfl, ?_⟩) ?_ ?_
  rotate_left
  ·intro w'
   go_simp
   with_reducible rfl
  rotate_left
  ·simp only [Act.put, List.setIfInBounds_toArray, List.set_cons_zero, List.set_cons_succ, i64_w, i32_w]
   rfl
  refine pure_ (i := 48) (N := some 63) (v := ?_) (a' := ?_) (bq true [49, 9]).toArray rfl rfl (any_of HT_.out (by kernel_rfl)) (fun _ _ _ h => h) (Or.inl ⟨by rfl, ?_⟩) ?_ ?_
  rotate_left
  ·intro w'
   go_simp
   with_reducible rfl
  rotate_left
  ·simp only [Act.put, List.setIfInBounds_toArray, List.set_cons_zero, List.set_cons_succ, i64_w, i32_w]
   rfl
  refine one_ (i := 49) (N := some 64) (bq true [50, 8]).toArray rfl rfl (one_of HT_.out (by kernel_rfl)) (by decide) (fun K hK => ?_)
  refine goes_ Try.func31 (by kernel_rfl) rfl #[] (by rfl) rfl rfl (by (try simp only [List.map_toArray, List.map_cons, List.map_nil]); first | done | rfl | (simp only [List.length_drop, List.length_take]; rfl)) ?_
  with_reducible refine (lathelaw07_half.calls  t277 t278 t279 t280 t281 t282 t285 _ A59.out).mono ?_
  rintro e w95 ⟨v283, rfl, ho0, hb⟩
  have HS14_ := (hb.cell (World.block_lt_of_cell? _ _ (hHeld.2.2.2.2.2.2.2.2.2.2.2.2.2.2))).trans (hHeld.2.2.2.2.2.2.2.2.2.2.2.2.2.2)
  refine ⟨_, rfl, ?_⟩
  have HO284 := Aside0.mk (Kd.N_lower (Kd.N_mono (ok' := fun k_ => some k_ ≠ (.slice Ao65 t195.length co65 : Value).ownBlock ∧ some k_ ≠ (.slice Ao66 y199.length co66 : Value).ownBlock ∧ some k_ ≠ (.slice Ao70 t207.length co70 : Value).ownBlock ∧ some k_ ≠ (.slice Ao72 t218.length co72 : Value).ownBlock ∧ some k_ ≠ (.slice (some ad266) t222.length co91 : Value).ownBlock ∧ some k_ ≠ (.slice Ao78 t230.length co78 : Value).ownBlock ∧ some k_ ≠ (.slice Ao82 t240.length co82 : Value).ownBlock ∧ some k_ ≠ (.slice Ao86 t251.length co86 : Value).ownBlock ∧ some k_ ≠ (.slice Ao89 t261.length co89 : Value).ownBlock ∧ some k_ ≠ (.slice Ao93 t272.length co93 : Value).ownBlock ∧ k_ ≠ gb212 ∧ k_ ≠ gb234) ho0 (fun k_ hk_ => ⟨(Kd.fresh' (Kd.N_lt (by (with_reducible repeat (first | apply Kd.N_alloc | apply Kd.N_drewN | apply Kd.N_drew)); exact HO197.out)) k_ hk_), (Kd.fresh' (Kd.R_lt (by (with_reducible repeat (first | apply Kd.R_alloc | apply Kd.R_drewN | apply Kd.R_drew)); exact HO201.out)) k_ hk_), (Kd.fresh' (Kd.N_lt (by (with_reducible repeat (first | apply Kd.N_alloc | apply Kd.N_drewN | apply Kd.N_drew)); exact HO209.out)) k_ hk_), (Kd.fresh' (Kd.N_lt (by (with_reducible repeat (first | apply Kd.N_alloc | apply Kd.N_drewN | apply Kd.N_drew)); exact HO220.out)) k_ hk_), (Kd.fresh' (Kd.R_lt (by (with_reducible repeat (first | apply Kd.R_alloc | apply Kd.R_drewN | apply Kd.R_drew)); exact HO224.out)) k_ hk_), (Kd.fresh' (Kd.N_lt (by (with_reducible repeat (first | apply Kd.N_alloc | apply Kd.N_drewN | apply Kd.N_drew)); exact HO232.out)) k_ hk_), (Kd.fresh' (Kd.N_lt (by (with_reducible repeat (first | apply Kd.N_alloc | apply Kd.N_drewN | apply Kd.N_drew)); exact HO242.out)) k_ hk_), (Kd.fresh' (Kd.N_lt (by (with_reducible repeat (first | apply Kd.N_alloc | apply Kd.N_drewN | apply Kd.N_drew)); exact HO253.out)) k_ hk_), (Kd.fresh' (Kd.N_lt (by (with_reducible repeat (first | apply Kd.N_alloc | apply Kd.N_drewN | apply Kd.N_drew)); exact HO263.out)) k_ hk_), (Kd.fresh' (Kd.N_lt (by (with_reducible repeat (first | apply Kd.N_alloc | apply Kd.N_drewN | apply Kd.N_drew)); exact HO274.out)) k_ hk_), (Kd.freshB (by (with_reducible repeat (first | refine blk_drewN ?_ _ | refine blk_drew ?_ | refine blk_alloc ?_ _)); exact BK212.out) k_ hk_), (Kd.freshB (g := gb234) (o := .cells #[.int .i64 t225, .string (⟨#[67, 104, 97, 105, 110]⟩ : ByteArray), .int .u32 t227, .int .i64 t228, .string t229, .slice Ao78 t230.length co78, .int .i64 t233] 26 (0, 0)) (by (with_reducible repeat (first | refine blk_drewN ?_ _ | refine blk_drew ?_ | refine blk_alloc ?_ _)); exact BK234.out) k_ hk_)⟩)) (below_size (by repeat (first | (with_reducible first | exact HB.out | apply below_alloc | apply pw_below_drewN | apply below_drew1 | refine below_set ?_ GE212.out | refine below_set ?_ GE234.out) | exact HB.out))))
  replace HO197 := Aside0.mk (Kd.N_elder' (by (with_reducible repeat (first | apply Kd.N_alloc | apply Kd.N_drewN | apply Kd.N_drew)); exact HO197.out) (by first | exact Kd.N_base ho0 | exact Kd.R_base ho0) hb)
  replace HO201 := Aside0.mk (Kd.R_below (by (with_reducible repeat (first | apply Kd.R_alloc | apply Kd.R_drewN | apply Kd.R_drew)); exact HO201.out) hb)
  replace HO209 := Aside0.mk (Kd.N_elder' (by (with_reducible repeat (first | apply Kd.N_alloc | apply Kd.N_drewN | apply Kd.N_drew)); exact HO209.out) (by first | exact Kd.N_base ho0 | exact Kd.R_base ho0) hb)
  replace HO220 := Aside0.mk (Kd.N_elder' (by (with_reducible repeat (first | apply Kd.N_alloc | apply Kd.N_drewN | apply Kd.N_drew)); exact HO220.out) (by first | exact Kd.N_base ho0 | exact Kd.R_base ho0) hb)
  replace HO224 := Aside0.mk (Kd.R_below (by (with_reducible repeat (first | apply Kd.R_alloc | apply Kd.R_drewN | apply Kd.R_drew)); exact HO224.out) hb)
  replace HO232 := Aside0.mk (Kd.N_elder' (by (with_reducible repeat (first | apply Kd.N_alloc | apply Kd.N_drewN | apply Kd.N_drew)); exact HO232.out) (by first | exact Kd.N_base ho0 | exact Kd.R_base ho0) hb)
  replace HO242 := Aside0.mk (Kd.N_elder' (by (with_reducible repeat (first | apply Kd.N_alloc | apply Kd.N_drewN | apply Kd.N_drew)); exact HO242.out) (by first | exact Kd.N_base ho0 | exact Kd.R_base ho0) hb)
  replace HO253 := Aside0.mk (Kd.N_elder' (by (with_reducible repeat (first | apply Kd.N_alloc | apply Kd.N_drewN | apply Kd.N_drew)); exact HO253.out) (by first | exact Kd.N_base ho0 | exact Kd.R_base ho0) hb)
  replace HO263 := Aside0.mk (Kd.N_elder' (by (with_reducible repeat (first | apply Kd.N_alloc | apply Kd.N_drewN | apply Kd.N_drew)); exact HO263.out) (by first | exact Kd.N_base ho0 | exact Kd.R_base ho0) hb)
  replace HO274 := Aside0.mk (Kd.N_elder' (by (with_reducible repeat (first | apply Kd.N_alloc | apply Kd.N_drewN | apply Kd.N_drew)); exact HO274.out) (by first | exact Kd.N_base ho0 | exact Kd.R_base ho0) hb)
  replace BK212 := Aside0.mk (blk_below (by (with_reducible repeat (first | refine blk_drewN ?_ _ | refine blk_drew ?_ | refine blk_alloc ?_ _)); exact BK212.out) hb)
  replace BK234 := Aside0.mk (blk_below (g := gb234) (o := .cells #[.int .i64 t225, .string (⟨#[67, 104, 97, 105, 110]⟩ : ByteArray), .int .u32 t227, .int .i64 t228, .string t229, .slice Ao78 t230.length co78, .int .i64 t233] 26 (0, 0)) (by (with_reducible repeat (first | refine blk_drewN ?_ _ | refine blk_drew ?_ | refine blk_alloc ?_ _)); exact BK234.out) hb)
  replace HB := Aside0.mk (below_step (by repeat (first | (with_reducible first | exact HB.out | apply below_alloc | apply pw_below_drewN | apply below_drew1 | refine below_set ?_ GE212.out | refine below_set ?_ GE234.out) | exact HB.out)) hb)
  (try clear hb)
  (try clear hb2)
  (try clear hk)
  (try clear hi)
  (try clear ho0)
  obtain ⟨Ao96, co96, eo96⟩ := Kd.N_slice HO284.out
  (first | subst eo96 | (injection eo96 with f1_ f2_ f3_; have f4_ := f1_.symm; have f5_ := f3_.symm; clear f1_ f2_ f3_; subst f4_; subst f5_))
  refine hK.out _ _ ⟨(blk_cell BK234.out 0).trans rfl, (blk_cell BK234.out 1).trans rfl, (blk_cell BK234.out 2).trans rfl, (blk_cell BK234.out 3).trans rfl, (blk_cell BK234.out 4).trans rfl, (blk_cell BK234.out 5).trans rfl, (blk_cell BK234.out 6).trans rfl, (blk_cell BK212.out 0).trans rfl, (blk_cell BK212.out 1).trans rfl, (blk_cell BK212.out 2).trans rfl, (blk_cell BK212.out 3).trans rfl, (blk_cell BK212.out 4).trans rfl, (blk_cell BK212.out 5).trans rfl, (blk_cell BK212.out 6).trans rfl, HS14_⟩ (fun hHeld => ?_)
  clear hK K
  refine norm_ (a' := ?_) ?_ ?_
  rotate_left
  ·show Act.put _ (some 64) _ = _
   simp only [Act.put, List.setIfInBounds_toArray, List.set_cons_zero, List.set_cons_succ, i64_w, i32_w]
   rfl
  refine one_ (i := 50) (N := some 65) (bq true [51, 7]).toArray rfl rfl (one_of HT_.out (by kernel_rfl)) (by decide) (fun K hK => ?_)
  refine goes_ Try.func18 (by kernel_rfl) rfl #[.agg #[.int .i64 t277, .string t278, .int .u32 t279, .int .i64 t280, .string t281, .slice Ao96 t282.length co96, .int .i64 t285]] (by rfl) rfl rfl (by (try simp only [List.map_toArray, List.map_cons, List.map_nil]); first | done | rfl | (simp only [List.length_drop, List.length_take]; rfl)) ?_
  with_reducible refine (tree_Strip.calls k t277 t278 t279 t280 t281 _ _ t282 t285 t286 t287 t288 t289 t290 t291 t294 _ ?side1 ?side2 A60.out).mono ?_
  (case side1 => repeat (first | exact (Kd.N_reads' HO284.out).2.2 | (with_reducible refine Kd.C_alloc ?_ _) | (with_reducible refine Kd.C_drewN ?_ _) | (with_reducible refine Kd.C_drew ?_)))
  (case side2 => exact (Kd.N_reads' HO284.out).2.1)
  rintro e w97 ⟨v292, rfl, ho0, hb⟩
  have HS14_ := (hb.cell (World.block_lt_of_cell? _ _ (hHeld.2.2.2.2.2.2.2.2.2.2.2.2.2.2))).trans (hHeld.2.2.2.2.2.2.2.2.2.2.2.2.2.2)
  refine ⟨_, rfl, ?_⟩
  have HO293 := Aside0.mk (Kd.N_lower (Kd.N_mono (ok' := fun k_ => some k_ ≠ (.slice Ao65 t195.length co65 : Value).ownBlock ∧ some k_ ≠ (.slice Ao66 y199.length co66 : Value).ownBlock ∧ some k_ ≠ (.slice Ao70 t207.length co70 : Value).ownBlock ∧ some k_ ≠ (.slice Ao72 t218.length co72 : Value).ownBlock ∧ some k_ ≠ (.slice (some ad266) t222.length co91 : Value).ownBlock ∧ some k_ ≠ (.slice Ao78 t230.length co78 : Value).ownBlock ∧ some k_ ≠ (.slice Ao82 t240.length co82 : Value).ownBlock ∧ some k_ ≠ (.slice Ao86 t251.length co86 : Value).ownBlock ∧ some k_ ≠ (.slice Ao89 t261.length co89 : Value).ownBlock ∧ some k_ ≠ (.slice Ao93 t272.length co93 : Value).ownBlock ∧ some k_ ≠ (.slice Ao96 t282.length co96 : Value).ownBlock ∧ k_ ≠ gb212 ∧ k_ ≠ gb234) (Kd.R_N (Kd.R_bound ho0)) (fun k_ hk_ => ⟨(Kd.fresh' (Kd.N_lt (by (with_reducible repeat (first | apply Kd.N_alloc | apply Kd.N_drewN | apply Kd.N_drew)); exact HO197.out)) k_ hk_.2.1), (Kd.fresh' (Kd.R_lt (by (with_reducible repeat (first | apply Kd.R_alloc | apply Kd.R_drewN | apply Kd.R_drew)); exact HO201.out)) k_ hk_.2.1), (Kd.fresh' (Kd.N_lt (by (with_reducible repeat (first | apply Kd.N_alloc | apply Kd.N_drewN | apply Kd.N_drew)); exact HO209.out)) k_ hk_.2.1), (Kd.fresh' (Kd.N_lt (by (with_reducible repeat (first | apply Kd.N_alloc | apply Kd.N_drewN | apply Kd.N_drew)); exact HO220.out)) k_ hk_.2.1), (Kd.fresh' (Kd.R_lt (by (with_reducible repeat (first | apply Kd.R_alloc | apply Kd.R_drewN | apply Kd.R_drew)); exact HO224.out)) k_ hk_.2.1), (Kd.fresh' (Kd.N_lt (by (with_reducible repeat (first | apply Kd.N_alloc | apply Kd.N_drewN | apply Kd.N_drew)); exact HO232.out)) k_ hk_.2.1), (Kd.fresh' (Kd.N_lt (by (with_reducible repeat (first | apply Kd.N_alloc | apply Kd.N_drewN | apply Kd.N_drew)); exact HO242.out)) k_ hk_.2.1), (Kd.fresh' (Kd.N_lt (by (with_reducible repeat (first | apply Kd.N_alloc | apply Kd.N_drewN | apply Kd.N_drew)); exact HO253.out)) k_ hk_.2.1), (Kd.fresh' (Kd.N_lt (by (with_reducible repeat (first | apply Kd.N_alloc | apply Kd.N_drewN | apply Kd.N_drew)); exact HO263.out)) k_ hk_.2.1), (Kd.fresh' (Kd.N_lt (by (with_reducible repeat (first | apply Kd.N_alloc | apply Kd.N_drewN | apply Kd.N_drew)); exact HO274.out)) k_ hk_.2.1), (Kd.fresh' (Kd.N_lt (by (with_reducible repeat (first | apply Kd.N_alloc | apply Kd.N_drewN | apply Kd.N_drew)); exact HO284.out)) k_ hk_.2.1), (Kd.freshB (by (with_reducible repeat (first | refine blk_drewN ?_ _ | refine blk_drew ?_ | refine blk_alloc ?_ _)); exact BK212.out) k_ hk_.2.1), (Kd.freshB (g := gb234) (o := .cells #[.int .i64 t225, .string (⟨#[67, 104, 97, 105, 110]⟩ : ByteArray), .int .u32 t227, .int .i64 t228, .string t229, .slice Ao78 t230.length co78, .int .i64 t233] 26 (0, 0)) (by (with_reducible repeat (first | refine blk_drewN ?_ _ | refine blk_drew ?_ | refine blk_alloc ?_ _)); exact BK234.out) k_ hk_.2.1)⟩)) (below_size (by repeat (first | (with_reducible first | exact HB.out | apply below_alloc | apply pw_below_drewN | apply below_drew1 | refine below_set ?_ GE212.out | refine below_set ?_ GE234.out) | exact HB.out))))
  replace HO197 := Aside0.mk (Kd.N_elder' (by (with_reducible repeat (first | apply Kd.N_alloc | apply Kd.N_drewN | apply Kd.N_drew)); exact HO197.out) (by first | exact Kd.N_base ho0 | exact Kd.R_base ho0) hb)
  replace HO201 := Aside0.mk (Kd.R_below (by (with_reducible repeat (first | apply Kd.R_alloc | apply Kd.R_drewN | apply Kd.R_drew)); exact HO201.out) hb)
  replace HO209 := Aside0.mk (Kd.N_elder' (by (with_reducible repeat (first | apply Kd.N_alloc | apply Kd.N_drewN | apply Kd.N_drew)); exact HO209.out) (by first | exact Kd.N_base ho0 | exact Kd.R_base ho0) hb)
  replace HO220 := Aside0.mk (Kd.N_elder' (by (with_reducible repeat (first | apply Kd.N_alloc | apply Kd.N_drewN | apply Kd.N_drew)); exact HO220.out) (by first | exact Kd.N_base ho0 | exact Kd.R_base ho0) hb)
  replace HO224 := Aside0.mk (Kd.R_below (by (with_reducible repeat (first | apply Kd.R_alloc | apply Kd.R_drewN | apply Kd.R_drew)); exact HO224.out) hb)
  replace HO232 := Aside0.mk (Kd.N_elder' (by (with_reducible repeat (first | apply Kd.N_alloc | apply Kd.N_drewN | apply Kd.N_drew)); exact HO232.out) (by first | exact Kd.N_base ho0 | exact Kd.R_base ho0) hb)
  replace HO242 := Aside0.mk (Kd.N_elder' (by (with_reducible repeat (first | apply Kd.N_alloc | apply Kd.N_drewN | apply Kd.N_drew)); exact HO242.out) (by first | exact Kd.N_base ho0 | exact Kd.R_base ho0) hb)
  replace HO253 := Aside0.mk (Kd.N_elder' (by (with_reducible repeat (first | apply Kd.N_alloc | apply Kd.N_drewN | apply Kd.N_drew)); exact HO253.out) (by first | exact Kd.N_base ho0 | exact Kd.R_base ho0) hb)
  replace HO263 := Aside0.mk (Kd.N_elder' (by (with_reducible repeat (first | apply Kd.N_alloc | apply Kd.N_drewN | apply Kd.N_drew)); exact HO263.out) (by first | exact Kd.N_base ho0 | exact Kd.R_base ho0) hb)
  replace HO274 := Aside0.mk (Kd.N_elder' (by (with_reducible repeat (first | apply Kd.N_alloc | apply Kd.N_drewN | apply Kd.N_drew)); exact HO274.out) (by first | exact Kd.N_base ho0 | exact Kd.R_base ho0) hb)
  replace HO284 := Aside0.mk (Kd.N_elder' (by (with_reducible repeat (first | apply Kd.N_alloc | apply Kd.N_drewN | apply Kd.N_drew)); exact HO284.out) (by first | exact Kd.N_base ho0 | exact Kd.R_base ho0) hb)
  replace BK212 := Aside0.mk (blk_below (by (with_reducible repeat (first | refine blk_drewN ?_ _ | refine blk_drew ?_ | refine blk_alloc ?_ _)); exact BK212.out) hb)
  replace BK234 := Aside0.mk (blk_below (g := gb234) (o := .cells #[.int .i64 t225, .string (⟨#[67, 104, 97, 105, 110]⟩ : ByteArray), .int .u32 t227, .int .i64 t228, .string t229, .slice Ao78 t230.length co78, .int .i64 t233] 26 (0, 0)) (by (with_reducible repeat (first | refine blk_drewN ?_ _ | refine blk_drew ?_ | refine blk_alloc ?_ _)); exact BK234.out) hb)
  replace HB := Aside0.mk (below_step (by repeat (first | (with_reducible first | exact HB.out | apply below_alloc | apply pw_below_drewN | apply below_drew1 | refine below_set ?_ GE212.out | refine below_set ?_ GE234.out) | exact HB.out)) hb)
  (try clear hb)
  (try clear hb2)
  (try clear hk)
  (try clear hi)
  (try clear ho0)
  obtain ⟨Ao98, co98, eo98⟩ := Kd.N_slice HO293.out
  (first | subst eo98 | (injection eo98 with f1_ f2_ f3_; have f4_ := f1_.symm; have f5_ := f3_.symm; clear f1_ f2_ f3_; subst f4_; subst f5_))
  have p295 : 0 ≤ (0 : Int) := (by omega)
  have q295 : 0 < (t291.length : Int) := of_decide_eq_true (by first | (with_reducible assumption) | assumption)
  obtain ⟨ad295, A295_5, c295_5, e295, hx295_0, hx295_1, hx295_2, hx295_3, hx295_4, hx295_5, hx295_6, hl295_5, hi295_5⟩ := at_T26 (Kd.N_reads' HO293.out).2.2 0 p295 q295
  cases e295
  obtain ⟨ce295, hce295, hMe295, hcc295⟩ := Kd.N_get HO293.out z26 0 p295 (by first | exact q295 | exact of_decide_eq_true (by first | (with_reducible assumption) | assumption) | (have e_ := (Kd.N_reads' HO293.out).1; omega))
  obtain ⟨ua295_5, uc295_5, rfl, ul295_5, ge295_5⟩ := k26_openF hMe295
  have hv295_5 := hcc295 5 _ rfl
  rw [add_field _ _ 5 (by omega)] at hv295_5
  replace hv295_5 := Option.some.inj (hv295_5.symm.trans hx295_5)
  injection hv295_5 with hva_ hvn_ hvc_
  rw [hva_] at ge295_5
  rw [hvc_] at ul295_5
  have HL295_5 := Aside0.mk (show Kd.V k26 26 _ w.heap.size _ _ ((rd_T26 t291 0).f5) from Kd.V_mk ul295_5 ge295_5)
  clear hva_ hvn_ hvc_ ge295_5 ul295_5
  clear hcc295 hce295
  have qi295 : (0 < t291.length) = True := eq_true (by omega)
  (try rw [show ((0 : Int)).toNat = 0 from rfl] at hx295_0)
  (try rw [show 0 * 7 = 0 from rfl] at hx295_0)
  (try rw [Addr.add_zero'] at hx295_0)
  (try rw [show ((0 : Int)).toNat = 0 from rfl] at hx295_1)
  (try rw [show 0 * 7 = 0 from rfl] at hx295_1)
  (try rw [Addr.add_zero'] at hx295_1)
  (try rw [show ((0 : Int)).toNat = 0 from rfl] at hx295_2)
  (try rw [show 0 * 7 = 0 from rfl] at hx295_2)
  (try rw [Addr.add_zero'] at hx295_2)
  (try rw [show ((0 : Int)).toNat = 0 from rfl] at hx295_3)
  (try rw [show 0 * 7 = 0 from rfl] at hx295_3)
  (try rw [Addr.add_zero'] at hx295_3)
  (try rw [show ((0 : Int)).toNat = 0 from rfl] at hx295_4)
  (try rw [show 0 * 7 = 0 from rfl] at hx295_4)
  (try rw [Addr.add_zero'] at hx295_4)
  (try rw [show ((0 : Int)).toNat = 0 from rfl] at hx295_5)
  (try rw [show 0 * 7 = 0 from rfl] at hx295_5)
  (try rw [Addr.add_zero'] at hx295_5)
  (try rw [show ((0 : Int)).toNat = 0 from rfl] at hx295_6)
  (try rw [show 0 * 7 = 0 from rfl] at hx295_6)
  (try rw [Addr.add_zero'] at hx295_6)
  have HR295_5 := Aside0.mk hi295_5
  have HC295_5 := Aside0.mk hl295_5
  clear hi295_5 hl295_5
  replace p295 := eq_true p295
  replace q295 := eq_true q295
  refine hK.out _ _ ⟨(blk_cell BK234.out 0).trans rfl, (blk_cell BK234.out 1).trans rfl, (blk_cell BK234.out 2).trans rfl, (blk_cell BK234.out 3).trans rfl, (blk_cell BK234.out 4).trans rfl, (blk_cell BK234.out 5).trans rfl, (blk_cell BK234.out 6).trans rfl, (blk_cell BK212.out 0).trans rfl, (blk_cell BK212.out 1).trans rfl, (blk_cell BK212.out 2).trans rfl, (blk_cell BK212.out 3).trans rfl, (blk_cell BK212.out 4).trans rfl, (blk_cell BK212.out 5).trans rfl, (blk_cell BK212.out 6).trans rfl, HS14_⟩ (fun hHeld => ?_)
  clear hK K
  refine norm_ (a' := ?_) ?_ ?_
  rotate_left
  ·show Act.put _ (some 65) _ = _
   simp only [Act.put, List.setIfInBounds_toArray, List.set_cons_zero, List.set_cons_succ, i64_w, i32_w]
   rfl
  refine pure_ (i := 51) (N := some 66) (v := ?_) (a' := ?_) (bq true [52, 6]).toArray rfl rfl (any_of HT_.out (by kernel_rfl)) (fun _ _ _ h => h) (Or.inl ⟨by rfl, ?_⟩) ?_ ?_
  rotate_left
  ·intro w'
   (try go_simp)
   (first | with_reducible rfl | (simp [Instr.field, Go.part, Go.asAgg, go_sem]; done) | (simp [Instr.field, Go.part, Go.asAgg, go_sem]; with_reducible rfl))
  rotate_left
  ·simp only [Act.put, List.setIfInBounds_toArray, List.set_cons_zero, List.set_cons_succ, i64_w, i32_w]
   rfl
  refine pure_ (i := 52) (N := some 67) (v := ?_) (a' := ?_) (bq true [53, 5]).toArray rfl rfl (any_of HT_.out (by kernel_rfl)) (fun _ _ _ h => h) (Or.inl ⟨by rfl, ?_⟩) ?_ ?_
  rotate_left
  ·intro w'
   (try go_simp)
   (first | with_reducible rfl | (simp [Instr.field, Go.part, Go.asAgg, go_sem]; done) | (simp [Instr.field, Go.part, Go.asAgg, go_sem]; with_reducible rfl))
  rotate_left
  ·simp only [Act.put, List.setIfInBounds_toArray, List.set_cons_zero, List.set_cons_succ, i64_w, i32_w]
   rfl
  refine pure_ (i := 53) (N := some 68) (v := ?_) (a' := ?_) (bq true [54, 4]).toArray rfl rfl (any_of HT_.out (by kernel_rfl)) (fun _ _ _ h => h) (Or.inl ⟨by rfl, ?_⟩) ?_ ?_
  rotate_left
  ·intro w'
   (try go_simp)
   (first | with_reducible rfl | (simp [Instr.field, Go.part, Go.asAgg, go_sem]; done) | (simp [Instr.field, Go.part, Go.asAgg, go_sem]; with_reducible rfl))
  rotate_left
  ·simp only [Act.put, List.setIfInBounds_toArray, List.set_cons_zero, List.set_cons_succ, i64_w, i32_w]
   rfl
  refine one_ (i := 54) (N := some 69) (bq true [55, 3]).toArray rfl rfl (one_of HT_.out (by kernel_rfl)) (by decide) (fun K hK => ?_)
  refine own_one_ (v := ?_) (a' := ?_) rfl rfl ?_ ?_ ?_
  rotate_left
  ·skip
   go_simp
   with_reducible rfl
  rotate_left
  ·simp only [Act.put, List.setIfInBounds_toArray, List.set_cons_zero, List.set_cons_succ, i64_w, i32_w]
   rfl
  refine hK.out _ _ hHeld (fun hHeld => ?_)
  clear hK K
  refine pure_ (i := 55) (N := some 70) (v := ?_) (a' := ?_) (bq true [56, 2]).toArray rfl rfl (any_of HT_.out (by kernel_rfl)) (fun _ _ _ h => h) (Or.inl ⟨by rfl, ?_⟩) ?_ ?_
  rotate_left
  ·intro w'
   (try go_simp)
   (first | with_reducible rfl | (simp [Instr.field, Go.part, Go.asAgg, go_sem]; done) | (simp [Instr.field, Go.part, Go.asAgg, go_sem]; with_reducible rfl))
  rotate_left
  ·simp only [Act.put, List.setIfInBounds_toArray, List.set_cons_zero, List.set_cons_succ, i64_w, i32_w]
   rfl
  refine pure_ (i := 56) (N := some 71) (v := ?_) (a' := ?_) (bq true [57, 1]).toArray rfl rfl (any_of HT_.out (by kernel_rfl)) (fun _ _ _ h => h) (Or.inl ⟨by rfl, ?_⟩) ?_ ?_
  rotate_left
  ·intro w'
   (try go_simp)
   (first | with_reducible rfl | (simp [Instr.field, Go.part, Go.asAgg, go_sem]; done) | (simp [Instr.field, Go.part, Go.asAgg, go_sem]; with_reducible rfl))
  rotate_left
  ·simp only [Act.put, List.setIfInBounds_toArray, List.set_cons_zero, List.set_cons_succ, i64_w, i32_w]
   rfl
  refine pure_ (i := 57) (N := some 0) (v := ?_) (a' := ?_) (bq true [58]).toArray rfl rfl (any_of HT_.out (by kernel_rfl)) (fun _ _ _ h => h) (Or.inl ⟨by rfl, ?_⟩) ?_ ?_
  rotate_left
  ·intro w'
   (try go_simp)
   (first | with_reducible rfl | (simp [Instr.field, Go.part, Go.asAgg, go_sem]; done) | (simp [Instr.field, Go.part, Go.asAgg, go_sem]; with_reducible rfl))
  rotate_left
  ·simp only [Act.put, List.setIfInBounds_toArray, List.set_cons_zero, List.set_cons_succ, i64_w, i32_w]
   rfl
  refine done_ (done_of HT_.out (by kernel_rfl)) ?_
  try go_wp2
  go_ret
  exact ⟨by first | rfl | (simp [errW_none, errW_some] <;> rfl) | (simp [*, errW_none, errW_some] <;> rfl), by repeat (first | (with_reducible first | exact HB.out | apply below_alloc | apply pw_below_drewN | apply below_drew1 | refine below_set ?_ GE212.out | refine below_set ?_ GE234.out) | exact HB.out)⟩end Go.Proofs.Ytbfomjbencbmlaa.Q
