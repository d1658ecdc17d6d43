/- What is known behind each step of lathelaw07.TreeOwn. Conditions: those that each theorem names. -/
import Derived.Test.YtbfomjbencbmlaaOwnA
namespace Go.Proofs.Ytbfomjbencbmlaa.Q
open Go.RowKit Go.Proofs.YtbfomjbencbmlaaW.PrintWords Go.Proofs.YtbfomjbencbmlaaW.PrintLast Go.Proofs.YtbfomjbencbmlaaW.PrintMore
set_option linter.unusedVariables false
set_option linter.unusedSimpArgs false
abbrev cells7 (a0 : Int) (a1 : ByteArray) (a2 a3 : Int) (a4 : ByteArray) (v : Value) (a6 : Int) : Array Value := #[.int .i64 a0, .string a1, .int .u32 a2, .int .i64 a3, .string a4, v, .int .i64 a6]
/-- A struct of seven cells written whole. -/
theorem stored7 {W w' : World} {g : Nat} {t : TypeId} {z0 z1 z2 z3 z4 z5 z6 a0 a1 a2 a3 a4 a5 a6 : Value} (h : W.heap[g]? = some (.cells #[z0, z1, z2, z3, z4, z5, z6] t (0, 0))) (hw : w' = W.setCells g 0 [a0, a1, a2, a3, a4, a5, a6]) : w'.heap[g]? = some (.cells #[a0, a1, a2, a3, a4, a5, a6] t (0, 0)) ∧ W.grownBy w' (some g) := by
  subst hw
  refine ⟨?_, ?_⟩
  · have h0 := blk_put (cs' := #[a0, z1, z2, z3, z4, z5, z6]) h 0 a0 rfl
    have h1 := blk_put (cs' := #[a0, a1, z2, z3, z4, z5, z6]) h0 1 a1 rfl
    have h2 := blk_put (cs' := #[a0, a1, a2, z3, z4, z5, z6]) h1 2 a2 rfl
    have h3 := blk_put (cs' := #[a0, a1, a2, a3, z4, z5, z6]) h2 3 a3 rfl
    have h4 := blk_put (cs' := #[a0, a1, a2, a3, a4, z5, z6]) h3 4 a4 rfl
    have h5 := blk_put (cs' := #[a0, a1, a2, a3, a4, a5, z6]) h4 5 a5 rfl
    exact blk_put (cs' := #[a0, a1, a2, a3, a4, a5, a6]) h5 6 a6 rfl
  · obtain ⟨e1, e2, e3, e4⟩ := setCells_env g [a0, a1, a2, a3, a4, a5, a6] 0 W
    exact ⟨e1, e2, e3, Nat.le_of_eq e4.symm, fun k hk hn => setCells_far _ _ k (fun e => hn (by rw [e]))⟩
/-- Behind spoilt, with the list of names xs. -/
structure OwnG (w W : World) (g1 g3 g4 G m c : Nat) (C1 C3 : Array Value) (vm vl : Value) (m6 : List S26) (xs : List ByteArray) (a : S26) : Prop where
  below : Below w.heap.size w W
  b1 : W.heap[g1]? = some (.cells C1 26 (0, 0))
  b3 : W.heap[g3]? = some (.cells C3 26 (0, 0))
  b4 : W.heap[g4]? = some (.cells (cells7 a.f0 ⟨#[115, 112, 111, 105, 108, 116]⟩ a.f2 a.f3 a.f4 (.slice (some ⟨G, 0, none⟩) (m + 1) c) a.f6) 26 (0, 0))
  bG : ∃ cur, W.heap[G]? = some (.cells cur 26 (0, 0)) ∧ cur[m * 7 + 1]? = some (.string ⟨#[109, 111, 114, 101]⟩)
  room : (m + 1) * 88 ≤ 140737488355328
  ge1 : w.heap.size ≤ g1
  ge3 : w.heap.size ≤ g3
  ge4 : w.heap.size ≤ g4
  rows : ∃ okm okl : Nat → Prop, (∀ k, okm k → ¬ okl k) ∧ ¬ okl g1 ∧ ¬ okl g3 ∧ ¬ okl g4 ∧ (∀ k, W.heap.size ≤ k → okl k) ∧ k26.R 26 W w.heap.size okm vm m6 ∧ Kd.string.R 9 W w.heap.size okl vl xs
theorem OwnG.of {w W W' : World} {g1 g3 g4 : Nat} {C1 C3 : Array Value} {vm va vl : Value} {m6 r6 : List S26} {l : List ByteArray} {a0 a2 a3 a6 : Int} {a1 a4 : ByteArray} {W5 : World} {N0 N1 : Nat}
    (h : OwnF w W g1 g3 g4 C1 C3 vm va vl m6 r6 l) (hN1 : g1 < N0) (hN3 : g3 < N0) (hN4 : g4 < N0 ∨ N1 ≤ g4) (hN : N0 ≤ N1) (hN5 : N1 ≤ W.heap.size) (hm : k26.R 26 W w.heap.size (fun k => ((k ≠ g1 ∧ k ≠ g3) ∧ k < N0) ∧ k ≠ g4) vm m6) (hl : Kd.string.R 9 W w.heap.size (fun k => N1 ≤ k ∧ k ≠ g4) vl l)
    (hW : W5.heap[g4]? = some (.cells (cells7 a0 a1 a2 a3 a4 va a6) 26 (0, 0))) (hg : W.grownBy W5 (some g4)) (hs : Sp W5 W' g4 0 (fun k => N0 ≤ k ∧ k < N1) (cells7 a0 a1 a2 a3 a4 va a6) 26) :
    ∃ G m c, OwnG w W' g1 g3 g4 G m c C1 C3 vm vl m6 l ⟨a0, a1, a2, a3, a4, r6, a6⟩ := by
  obtain ⟨G, m, c, cur, h4, hG, hcur, hroom⟩ := hs.cells
  have hsz := hg.size
  have hl4 := blk_lt h.b4
  have mv : ∀ k, k < W.heap.size → k ≠ g4 → ¬ (N0 ≤ k ∧ k < N1) → W'.heap[k]? = W.heap[k]? := fun k hk hn ho => (hs.block k (by omega) hn ho).trans (hg.block k hk (fun e => hn (by injection e)))
  have hwN : w.heap.size ≤ N0 := by have := h.ge1; omega
  refine ⟨G, m, c, ⟨?_, ?_, ?_, ?_, ⟨cur, hG, hcur⟩, hroom, h.ge1, h.ge3, h.ge4, fun k => ((k ≠ g1 ∧ k ≠ g3) ∧ k < N0) ∧ k ≠ g4, fun k => N1 ≤ k ∧ k ≠ g4, fun k h1 h2 => by have := h1.1.2; omega, fun e => by omega, fun e => by omega, fun e => e.2 rfl, fun k hk => ?_, ?_, ?_⟩⟩
  · exact ⟨hs.os.trans (hg.os.trans h.below.os), hs.tape.trans (hg.tape.trans h.below.tape), hs.output.trans (hg.output.trans h.below.output), by have := hs.size; have := h.below.size; omega, fun k hk => (mv k (by have := h.below.size; omega) (fun e => by have := h.ge4; omega) (fun e => by omega)).trans (h.below.block k hk)⟩
  · exact (mv g1 (blk_lt h.b1) h.n14 (fun e => by omega)).trans h.b1
  · exact (mv g3 (blk_lt h.b3) h.n34 (fun e => by omega)).trans h.b3
  · exact h4
  · have := hs.size
    exact ⟨by omega, by omega⟩
  · exact Kd.R_step hm (fun k hk hlt => mv k hlt hk.2 (fun e => by have := hk.1.2; omega))
  · exact Kd.R_step hl (fun k hk hlt => mv k hlt hk.2 (fun e => by have := hk.1; omega))
theorem hg_below {w W W' : World} {row : Option Nat} (h : Below w.heap.size w W) (hg : W.grownBy W' row) (hr : ∀ k, row = some k → w.heap.size ≤ k) : Below w.heap.size w W' := pw_below_grown h row h.size hg hr
/-- What only makes memory leaves it. -/
theorem OwnG.below' {w W W' : World} {g1 g3 g4 G m c : Nat} {C1 C3 : Array Value} {vm vl : Value} {m6 : List S26} {xs : List ByteArray} {a : S26} (h : OwnG w W g1 g3 g4 G m c C1 C3 vm vl m6 xs a) (hb : Below W.heap.size W W') : OwnG w W' g1 g3 g4 G m c C1 C3 vm vl m6 xs a := by
  obtain ⟨cur, hG, hcur⟩ := h.bG
  obtain ⟨okm, okl, d, n1, n3, n4, hn, hm, hl⟩ := h.rows
  exact ⟨below_step h.below hb, blk_below h.b1 hb, blk_below h.b3 hb, blk_below h.b4 hb, ⟨cur, blk_below hG hb, hcur⟩, h.room, h.ge1, h.ge3, h.ge4, okm, okl, d, n1, n3, n4, fun k hk => hn k (Nat.le_trans hb.size hk), Kd.R_below hm hb, Kd.R_below hl hb⟩
/-- The list of names is written, or grown. -/
theorem OwnG.names {w W W' : World} {g1 g3 g4 G m c : Nat} {C1 C3 : Array Value} {vm vl vl' : Value} {m6 : List S26} {xs xs' : List ByteArray} {a : S26} (h : OwnG w W g1 g3 g4 G m c C1 C3 vm vl m6 xs a) {okm okl : Nat → Prop} (d : ∀ k, okm k → ¬ okl k) (n1 : ¬ okl g1) (n3 : ¬ okl g3) (n4 : ¬ okl g4) (hn : ∀ k, W.heap.size ≤ k → okl k)
    (hm : k26.R 26 W w.heap.size okm vm m6) (hl : Kd.string.R 9 W w.heap.size okl vl xs) (hg : W.grownBy W' vl.ownBlock) (hl' : Kd.string.R 9 W' w.heap.size okl vl' xs') : OwnG w W' g1 g3 g4 G m c C1 C3 vm vl' m6 xs' a := by
  obtain ⟨cur, hG, hcur⟩ := h.bG
  have hne : ∀ k, vl.ownBlock = some k → okl k := hl.1
  have far : ∀ g, ¬ okl g → some g ≠ vl.ownBlock := fun g hg e => hg (hne g e.symm)
  have hGne : some G ≠ vl.ownBlock := Kd.R_ne hl hG (by decide)
  exact ⟨hg_below h.below hg (fun k hk => Kd.R_base hl k hk), blk_grown h.b1 hg (far _ n1), blk_grown h.b3 hg (far _ n3), blk_grown h.b4 hg (far _ n4), ⟨cur, blk_grown hG hg hGne, hcur⟩, h.room, h.ge1, h.ge3, h.ge4, okm, okl, d, n1, n3, n4, fun k hk => hn k (Nat.le_trans hg.size hk), Kd.R_grown hm hg (fun k hk e => d k hk (hne k e.symm)), hl'⟩
/-- A name is written. -/
theorem OwnG.put {w W : World} {g1 g3 g4 G m c gl n cap : Nat} {C1 C3 : Array Value} {vm : Value} {m6 : List S26} {xs : List ByteArray} {a : S26} (h : OwnG w W g1 g3 g4 G m c C1 C3 vm (.slice (some ⟨gl, 0, none⟩) n cap) m6 xs a) (j : Nat) (x : ByteArray) : OwnG w (W.setCell ⟨gl, j, none⟩ (.string x)) g1 g3 g4 G m c C1 C3 vm (.slice (some ⟨gl, 0, none⟩) n cap) m6 (xs.set j x) a := by
  obtain ⟨okm, okl, d, n1, n3, n4, hn, hm, hl⟩ := h.rows
  obtain ⟨h1, h2⟩ := Kd.R_putg hl (j : Int) x
  exact h.names d n1 n3 n4 hn hm hl h2 h1
theorem OwnG.rowC {w W : World} {g1 g3 g4 G m c : Nat} {C1 C3 : Array Value} {Am : Option Addr} {cm nm : Nat} {vl : Value} {m6 : List S26} {xs : List ByteArray} {a : S26} (h : OwnG w W g1 g3 g4 G m c C1 C3 (.slice Am nm cm) vl m6 xs a) : Kd.C k26 W Am m6.length m6 ∧ m6.length ≤ cm := by
  obtain ⟨_, _, _, _, _, _, _, hm, _⟩ := h.rows
  have h2 := Kd.R_reads' hm
  exact ⟨h2.2.2, by rw [← h2.1]; exact h2.2.1⟩
theorem OwnG.lastCell {w W : World} {g1 g3 g4 G m c : Nat} {C1 C3 : Array Value} {vm : Value} {gl n cl : Nat} {m6 : List S26} {xs : List ByteArray} {x : ByteArray} {a : S26} (h : OwnG w W g1 g3 g4 G m c C1 C3 vm (.slice (some ⟨gl, 0, none⟩) n cl) m6 (xs ++ [x]) a) : W.cell? ⟨gl, xs.length, none⟩ = some (.string x) := by
  obtain ⟨_, _, _, _, _, _, _, _, hl⟩ := h.rows
  have hn := (Kd.R_reads' hl).1
  rw [List.length_append, List.length_singleton] at hn
  obtain ⟨cc, hcl, hcM, hcc, hcf⟩ := Kd.R_elem hl ByteArray.empty (xs.length : Int) (by omega) (by omega)
  have e : (xs ++ [x]).getD (xs.length : Int).toNat ByteArray.empty = x := by simp
  have h_ := hcc 0 (.string x) (by rw [show cc = [Value.string ((xs ++ [x]).getD (xs.length : Int).toNat ByteArray.empty)] from hcM, e]; rfl)
  simpa [Kd.string, Kd.scalar] using h_
theorem OwnG.moreCell {w W : World} {g1 g3 g4 G m c : Nat} {C1 C3 : Array Value} {vm vl : Value} {m6 : List S26} {xs : List ByteArray} {a : S26} (h : OwnG w W g1 g3 g4 G m c C1 C3 vm vl m6 xs a) : W.cell? ⟨G, m * 7 + 1, none⟩ = some (.string ⟨#[109, 111, 114, 101]⟩) := by
  obtain ⟨cur, hG, hcur⟩ := h.bG
  exact (blk_cell hG _).trans hcur
end Go.Proofs.Ytbfomjbencbmlaa.Q
