/- What is known behind the two calls of lathelaw07.TreeOwn, whatever their order. Conditions: those that each theorem names. -/
import Derived.Test.YtbfomjbencbmlaaSpoilS
import Derived.Test.YtbfomjbencbmlaaSpoilB
namespace Go.Proofs.Ytbfomjbencbmlaa.Q
open Go.RowKit Go.Proofs.YtbfomjbencbmlaaW.PrintWords Go.Proofs.YtbfomjbencbmlaaW.PrintLast Go.Proofs.YtbfomjbencbmlaaW.PrintMore
set_option linter.unusedVariables false
set_option linter.unusedSimpArgs false
abbrev zc26 : Obj := .cells #[.int .i64 0, .string ⟨#[]⟩, .int .u32 0, .int .i64 0, .string ⟨#[]⟩, .slice none 0 0, .int .i64 0] 26 (0, 0)
/-- Ahead of the two calls. -/
structure OwnP (w W : World) (g1 g3 : Nat) (C1 C3 : Array Value) (vm : Value) (m6 : List S26) : Prop where
  below : Below w.heap.size w W
  b1 : W.heap[g1]? = some (.cells C1 26 (0, 0))
  b3 : W.heap[g3]? = some (.cells C3 26 (0, 0))
  ge1 : w.heap.size ≤ g1
  ge3 : w.heap.size ≤ g3
  ne : g1 ≠ g3
  row : k26.R 26 W w.heap.size (fun k => k ≠ g1 ∧ k ≠ g3) vm m6
/-- Behind them. -/
structure OwnF (w W : World) (g1 g3 g4 : Nat) (C1 C3 : Array Value) (vm va vl : Value) (m6 r6 : List S26) (l : List ByteArray) : Prop where
  below : Below w.heap.size w W
  b1 : W.heap[g1]? = some (.cells C1 26 (0, 0))
  b3 : W.heap[g3]? = some (.cells C3 26 (0, 0))
  b4 : W.heap[g4]? = some zc26
  ge1 : w.heap.size ≤ g1
  ge3 : w.heap.size ≤ g3
  ge4 : w.heap.size ≤ g4
  n13 : g1 ≠ g3
  n14 : g1 ≠ g4
  n34 : g3 ≠ g4
  rest : ∃ N0 N1, g1 < N0 ∧ g3 < N0 ∧ (g4 < N0 ∨ N1 ≤ g4) ∧ N0 ≤ N1 ∧ N1 ≤ W.heap.size ∧ k26.R 26 W w.heap.size (fun k => ((k ≠ g1 ∧ k ≠ g3) ∧ k < N0) ∧ k ≠ g4) vm m6 ∧ Kd.S ksf 26 W w.heap.size (fun k => N0 ≤ k ∧ k < N1) va r6 ∧ Kd.string.R 9 W w.heap.size (fun k => N1 ≤ k ∧ k ≠ g4) vl l
section
variable {w A B C : World} {g1 g3 : Nat} {C1 C3 : Array Value} {vm va vl : Value} {m6 r6 : List S26} {l : List ByteArray}
theorem pathA (h : OwnP w A g1 g3 C1 C3 vm m6) (hs : Kd.S ksf 26 B A.heap.size (fun _ => True) va r6) (hb : Below A.heap.size A B) (hl : Kd.string.R 9 C B.heap.size (fun _ => True) vl l) (hc : Below B.heap.size B C) :
    OwnF w (C.alloc zc26) g1 g3 C.heap.size C1 C3 vm va vl m6 r6 l := by
  have hB := below_then h.below h.below.size hb
  have hC := below_then hB hB.size hc
  have l1 := blk_lt h.b1
  have l3 := blk_lt h.b3
  have s1 := hb.size
  have s2 := hc.size
  refine ⟨below_alloc hC _, blk_alloc (blk_below (blk_below h.b1 hb) hc) _, blk_alloc (blk_below (blk_below h.b3 hb) hc) _, blk_new _ _, h.ge1, h.ge3, hC.size, h.ne, by omega, by omega, A.heap.size, B.heap.size, l1, l3, .inr s2, s1, by simp; omega, ?_, ?_, ?_⟩
  · exact Kd.R_mono (Kd.R_alloc (Kd.R_below (Kd.R_below (Kd.R_bound h.row) hb) hc) _) (fun k hk => ⟨⟨hk.1, hk.2.2.1⟩, by have := hk.2.2.1; omega⟩)
  · exact Kd.S_mono (Kd.S_alloc (Kd.S_below (Kd.S_lower (Kd.S_bound hs) h.below.size) hc) _) (fun k hk => ⟨hk.2.1, hk.2.2.1⟩)
  · exact Kd.R_mono (Kd.R_alloc (Kd.R_lower (Kd.R_bound hl) hB.size) _) (fun k hk => ⟨hk.2.1, by have := hk.2.2.1; omega⟩)
theorem pathB (h : OwnP w A g1 g3 C1 C3 vm m6) (hs : Kd.S ksf 26 B A.heap.size (fun _ => True) va r6) (hb : Below A.heap.size A B) (hl : Kd.string.R 9 C (B.alloc zc26).heap.size (fun _ => True) vl l) (hc : Below (B.alloc zc26).heap.size (B.alloc zc26) C) :
    OwnF w C g1 g3 B.heap.size C1 C3 vm va vl m6 r6 l := by
  have hB := below_then h.below h.below.size hb
  have hB2 := below_alloc hB zc26
  have hC := below_then hB2 hB2.size hc
  have l1 := blk_lt h.b1
  have l3 := blk_lt h.b3
  have s1 := hb.size
  have hsz : (B.alloc zc26).heap.size = B.heap.size + 1 := by simp
  refine ⟨hC, blk_below (blk_alloc (blk_below h.b1 hb) _) hc, blk_below (blk_alloc (blk_below h.b3 hb) _) hc, blk_below (blk_new _ _) hc, h.ge1, h.ge3, hB.size, h.ne, by omega, by omega, A.heap.size, B.heap.size, l1, l3, .inr (Nat.le_refl _), s1, by have := hc.size; omega, ?_, ?_, ?_⟩
  · exact Kd.R_mono (Kd.R_below (Kd.R_alloc (Kd.R_below (Kd.R_bound h.row) hb) _) hc) (fun k hk => ⟨⟨hk.1, hk.2.2.1⟩, by have := hk.2.2.1; omega⟩)
  · exact Kd.S_mono (Kd.S_below (Kd.S_alloc (Kd.S_lower (Kd.S_bound hs) h.below.size) _) hc) (fun k hk => ⟨hk.2.1, hk.2.2.1⟩)
  · exact Kd.R_mono (Kd.R_lower (Kd.R_bound hl) (by rw [hsz]; have := hB.size; omega)) (fun k hk => ⟨by have := hk.2.1; omega, by have := hk.2.1; omega⟩)
theorem pathC (h : OwnP w A g1 g3 C1 C3 vm m6) (hs : Kd.S ksf 26 B (A.alloc zc26).heap.size (fun _ => True) va r6) (hb : Below (A.alloc zc26).heap.size (A.alloc zc26) B) (hl : Kd.string.R 9 C B.heap.size (fun _ => True) vl l) (hc : Below B.heap.size B C) :
    OwnF w C g1 g3 A.heap.size C1 C3 vm va vl m6 r6 l := by
  have hA2 := below_alloc h.below zc26
  have hB := below_then hA2 hA2.size hb
  have hC := below_then hB hB.size hc
  have l1 := blk_lt h.b1
  have l3 := blk_lt h.b3
  have s1 := hb.size
  have hsz : (A.alloc zc26).heap.size = A.heap.size + 1 := by simp
  refine ⟨hC, blk_below (blk_below (blk_alloc h.b1 _) hb) hc, blk_below (blk_below (blk_alloc h.b3 _) hb) hc, blk_below (blk_below (blk_new _ _) hb) hc, h.ge1, h.ge3, h.below.size, h.ne, by omega, by omega, A.heap.size + 1, B.heap.size, by omega, by omega, .inl (by omega), by omega, hc.size, ?_, ?_, ?_⟩
  · exact Kd.R_mono (Kd.R_below (Kd.R_below (Kd.R_alloc (Kd.R_bound h.row) _) hb) hc) (fun k hk => ⟨⟨hk.1, by have := hk.2.2.1; omega⟩, by have := hk.2.2.1; omega⟩)
  · exact Kd.S_mono (Kd.S_below (Kd.S_lower (Kd.S_bound hs) (by rw [hsz]; have := h.below.size; omega)) hc) (fun k hk => ⟨by have := hk.2.1; omega, hk.2.2.1⟩)
  · exact Kd.R_mono (Kd.R_lower (Kd.R_bound hl) hB.size) (fun k hk => ⟨hk.2.1, by have := hk.2.1; omega⟩)
end
end Go.Proofs.Ytbfomjbencbmlaa.Q
