/- What lathelaw07.spoilt leaves as it was: everything but the tree itself. Conditions: those that each theorem names. -/
import Derived.Test.YtbfomjbencbmlaaSpoilA
import Derived.Outline
namespace Go.Proofs.Ytbfomjbencbmlaa.Q
open Go.RowKit Go.Proofs.YtbfomjbencbmlaaW.PrintWords Go.Proofs.YtbfomjbencbmlaaW.PrintLast Go.Proofs.YtbfomjbencbmlaaW.PrintMore
set_option linter.unusedVariables false
set_option linter.unusedSimpArgs false
/-- No list is so long that it could not grow by one. -/
def roomy : Nat → S26 → Prop
  | 0, _ => True
  | n + 1, x => (x.f5.length + 1) * 88 ≤ 140737488355328 ∧ ∀ y ∈ x.f5, roomy n y
/-- From w to w': the blocks of ok may be written, of block g the name and the list of the node at o; the list's last node is named 'more'. -/
structure Sp (w w' : World) (g o : Nat) (ok : Nat → Prop) (C : Array Value) (t : TypeId) : Prop where
  os : w'.os = w.os
  tape : w'.tape = w.tape
  output : w'.output = w.output
  size : w.heap.size ≤ w'.heap.size
  block : ∀ k, k < w.heap.size → k ≠ g → ¬ ok k → w'.heap[k]? = w.heap[k]?
  cells : ∃ (G m c : Nat) (cur : Array Value), w'.heap[g]? = some (.cells ((C.setIfInBounds (o + 1) (.string ⟨#[115, 112, 111, 105, 108, 116]⟩)).setIfInBounds (o + 5) (.slice (some ⟨G, 0, none⟩) (m + 1) c)) t (0, 0)) ∧ w'.heap[G]? = some (.cells cur 26 (0, 0)) ∧ cur[m * 7 + 1]? = some (.string ⟨#[109, 111, 114, 101]⟩) ∧ (m + 1) * 88 ≤ 140737488355328
/-- The loop's state behind k rounds. -/
structure SpI (w wr : World) (g : Nat) (base : Nat) (ok : Nat → Prop) (f : Nat → Nat) (v5 : Value) (n : Nat) (inner : List Value) (C1 : Array Value) (t : TypeId) (k : Nat) : Prop where
  os : wr.os = w.os
  tape : wr.tape = w.tape
  output : wr.output = w.output
  size : w.heap.size ≤ wr.heap.size
  block : ∀ b, b < w.heap.size → b ≠ g → ¬ ok b → wr.heap[b]? = w.heap[b]?
  blk : wr.heap[g]? = some (.cells C1 t (0, 0))
  row : ∃ inner', wr.ownsRow base 26 7 v5 n inner' ∧ (∀ u ∈ inner', u.oneCell' = true) ∧ ∀ j, k * 7 ≤ j → inner'[j]? = inner[j]?
  rest : ∀ b, b < w.heap.size → ok b → some b ≠ v5.ownBlock → k ≤ f b → wr.heap[b]? = w.heap[b]?

theorem SpI.start {w : World} {g o base : Nat} {ok : Nat → Prop} {f : Nat → Nat} {v5 : Value} {n : Nat} {inner : List Value} {C : Array Value} {t : TypeId} (s : Value) (hg : w.heap[g]? = some (.cells C t (0, 0))) (hng : ¬ ok g) (h0 : ∀ k, v5.ownBlock = some k → ok k)
    (hrow : w.ownsRow base 26 7 v5 n inner) (h1 : ∀ u ∈ inner, u.oneCell' = true) : SpI w (w.setCell ⟨g, o, none⟩ s) g base ok f v5 n inner (C.setIfInBounds o s) t 0 := by
  have hfar : ∀ b, b ≠ g → (w.setCell ⟨g, o, none⟩ s).heap[b]? = w.heap[b]? := fun b hb => Below.heap_setCell _ _ _ _ hb
  refine ⟨rfl, rfl, rfl, by simp [World.setCell], fun b _ hb _ => hfar b hb, blk_set hg o s, ⟨inner, own_move hrow (fun k hk => hfar k (fun e => hng (e ▸ h0 k hk))), h1, fun _ _ => rfl⟩, fun b _ hb _ _ => hfar b (fun e => hng (e ▸ hb))⟩
theorem SpI.step {w wr w' : World} {g base : Nat} {ok : Nat → Prop} {f : Nat → Nat} {v5 : Value} {n : Nat} {inner : List Value} {C1 : Array Value} {t : TypeId} {k g5 cap : Nat} {cur : Array Value} {inner' : List Value}
    (hI : SpI w wr g base ok f v5 n inner C1 t k) (hk : k < n) (hv : v5 = .slice (some ⟨g5, 0, none⟩) n cap) (hb5 : base ≤ g5) (hc : wr.heap[g5]? = some (.cells cur 26 (0, 0))) (hcap : n ≤ cap) (hmax : cap ≤ maxLen) (hsz : cur.size = cap * 7)
    (hin : cur.toList.take (n * 7) = inner') (hl : inner'.length = n * 7) (h1 : ∀ u ∈ inner', u.oneCell' = true) (hj : ∀ j, k * 7 ≤ j → inner'[j]? = inner[j]?) (hng : ¬ ok g) (hown : ok g5) (hgw : g < w.heap.size)
    (hs : Sp wr w' g5 (k * 7) (fun b => (ok b ∧ some b ≠ v5.ownBlock) ∧ f b = k) cur 26) : SpI w w' g base ok f v5 n inner C1 t (k + 1) := by
  obtain ⟨G, m, c, _, hcells, _, _, _⟩ := hs.cells
  have hne : g ≠ g5 := fun e => hng (e ▸ hown)
  have hov : v5.ownBlock = some g5 := by rw [hv]; rfl
  refine ⟨hs.os.trans hI.os, hs.tape.trans hI.tape, hs.output.trans hI.output, Nat.le_trans hI.size hs.size, fun b hb hbg hbo => ?_, ?_, ?_, fun b hb hbo hbn hbf => ?_⟩
  · exact (hs.block b (Nat.lt_of_lt_of_le hb hI.size) (fun e => hbo (e ▸ hown)) (fun h => hbo h.1.1)).trans (hI.block b hb hbg hbo)
  · exact (hs.block g (Nat.lt_of_lt_of_le hgw hI.size) hne (fun h => hng h.1.1)).trans hI.blk
  · refine ⟨(((cur.setIfInBounds (k * 7 + 1) (.string ⟨#[115, 112, 111, 105, 108, 116]⟩)).setIfInBounds (k * 7 + 5) (.slice (some ⟨G, 0, none⟩) (m + 1) c)).toList.take (n * 7)), ⟨by rw [List.length_take]; simp only [Array.length_toList, Array.size_setIfInBounds, hsz]; have := Nat.mul_le_mul_right 7 hcap; omega, .inr ⟨g5, cap, _, hv, hb5, hcells, hcap, hmax, by simp only [Array.size_setIfInBounds, hsz], rfl⟩⟩, fun u hu => ?_, fun j hjk => ?_⟩
    · obtain ⟨j, hju⟩ := List.getElem?_of_mem hu
      rw [List.getElem?_take] at hju
      split at hju
      · rename_i hjn
        simp only [Array.toList_setIfInBounds, List.getElem?_set] at hju
        split at hju
        · split at hju
          · injection hju with e; subst e; rfl
          · cases hju
        · split at hju
          · split at hju
            · injection hju with e; subst e; rfl
            · cases hju
          · refine h1 u ?_
            rw [← hin]
            exact List.mem_of_getElem? (i := j) (by rw [List.getElem?_take, if_pos hjn]; exact hju)
      · cases hju
    · rw [List.getElem?_take]
      have h2 := hj j (by omega)
      rw [← hin, List.getElem?_take] at h2
      rw [← h2]
      split
      · simp only [Array.toList_setIfInBounds]
        rw [List.getElem?_set_ne (by omega), List.getElem?_set_ne (by omega)]
      · rfl
  · exact (hs.block b (Nat.lt_of_lt_of_le hb hI.size) (fun e => hbn (by rw [hov, e])) (fun h => by have := h.2; omega)).trans (hI.rest b hb hbo hbn (by omega))
section
variable {P : Program} {ops : Array Oper} {Q : Exit → Act → World → Prop} {md : Region.Mode} {S : World → Prop} {ds : List Nat}
/-- Two operations that may come up, behind which nothing is shown. -/
theorem twoL_ {i j : Nat} {Ni Nj : Option Tmp} {oi oj : Oper} {fuel : Nat} {l : Array Bool} {a : Act} {w : World} (li lj : Array Bool) (hi : ops[i]? = some oi) (hj : ops[j]? = some oj) (hNi : oi.dst = Ni) (hNj : oj.dst = Nj)
    (hc : (Region.ready md ops l == [i, j] && l.setIfInBounds i true == li && l.setIfInBounds j true == lj) = true) (hdi : i ∈ ds) (hdj : j ∈ ds)
    (h1 : ∀ K : Act → World → Prop, Shut (∀ a' w', wpAnyLast P md ops Q S ds fuel li a' w' → K a' w') → if Region.wanted oi (yielded ops a.tmps) = true then Oper.wp P oi a w K Q else K (a.put Ni undef) w)
    (h2 : ∀ K : Act → World → Prop, Shut (∀ a' w', wpAnyLast P md ops Q S ds fuel lj a' w' → K a' w') → if Region.wanted oj (yielded ops a.tmps) = true then Oper.wp P oj a w K Q else K (a.put Nj undef) w) :
    wpAnyLast P md ops Q S ds (fuel + 1) l a w := by
  subst hNi
  subst hNj
  simp only [Bool.and_eq_true, beq_iff_eq] at hc
  obtain ⟨⟨h3, h4⟩, h5⟩ := hc
  subst h4
  subst h5
  exact wpAnyLast_ready h3 (by simp) (AllReadyL.cons_last hi hdi (fun K hK => h1 K hK) (AllReadyL.cons_last hj hdj (fun K hK => h2 K hK) AllReadyL.nil))
end
theorem run_store_op {P : Program} {a : Act} {oi : Oper} {w w1 : World} (t : TypeId) (p x : Operand) (ho : oi.op = .store t p x) (A u : Value) (hp : a.eval p = A) (hx : a.eval x = u) (hrun : (Instr.storeAt t A u).run P w = .ok () w1) : (execOp a.eval oi).run P w = .ok .skip w1 := by
  unfold execOp
  simp only [ho, hp, hx, Sem.run_bind, Sem.run_pure, Result.andThen_ok, hrun]
theorem Sp.final {w wr w1 Wf : World} {g o base : Nat} {ok : Nat → Prop} {f : Nat → Nat} {v5 : Value} {n g1 cap : Nat} {inner : List Value} {C : Array Value} {t : TypeId}
    (hI : SpI w wr g base ok f v5 n inner (C.setIfInBounds (o + 1) (.string ⟨#[115, 112, 111, 105, 108, 116]⟩)) t n) (hg1 : wr.drew.grownBy w1 v5.ownBlock) (h0 : ∀ k, v5.ownBlock = some k → ok k)
    (hat : (Value.slice (some ⟨g1, 0, none⟩) (n + 1) cap).ownBlock = v5.ownBlock ∨ ∃ b, (Value.slice (some ⟨g1, 0, none⟩) (n + 1) cap).ownBlock = some b ∧ wr.drew.heap.size ≤ b)
    (hos : Wf.os = w1.os) (htape : Wf.tape = w1.tape) (hout : Wf.output = w1.output) (hsz : w1.heap.size ≤ Wf.heap.size) (hf : ∀ b, b ≠ g → b ≠ g1 → Wf.heap[b]? = w1.heap[b]?)
    (hgf : Wf.heap[g]? = some (.cells ((C.setIfInBounds (o + 1) (.string ⟨#[115, 112, 111, 105, 108, 116]⟩)).setIfInBounds (o + 5) (.slice (some ⟨g1, 0, none⟩) (n + 1) cap)) t (0, 0))) {cur : Array Value} (hG : Wf.heap[g1]? = some (.cells cur 26 (0, 0))) (hm : cur[n * 7 + 1]? = some (.string ⟨#[109, 111, 114, 101]⟩)) (hrm : (n + 1) * 88 ≤ 140737488355328) : Sp w Wf g o ok C t := by
  refine ⟨hos.trans (hg1.os.trans hI.os), htape.trans (hg1.tape.trans hI.tape), hout.trans (hg1.output.trans hI.output), Nat.le_trans hI.size (Nat.le_trans hg1.size hsz), fun k hk hkg hko => ?_, ⟨g1, n, cap, cur, hgf, hG, hm, hrm⟩⟩
  have hne : k ≠ g1 := by
    rintro rfl
    rcases hat with h | ⟨b, h, hb⟩
    · exact hko (h0 k (by rw [← h]; rfl))
    · have e : k = b := by injection h
      have := hI.size
      have hb2 : wr.heap.size ≤ b := hb
      omega
  exact (hf k hkg hne).trans ((hg1.block k (Nat.lt_of_lt_of_le hk hI.size) (fun e => hko (h0 k e.symm))).trans (hI.block k hk hkg hko))
theorem size_setCell' (w : World) (p : Addr) (v : Value) : (w.setCell p v).heap.size = w.heap.size := by simp [World.setCell]
theorem setCells_env (g : Nat) : ∀ (seg : List Value) (o : Nat) (W : World), (W.setCells g o seg).os = W.os ∧ (W.setCells g o seg).tape = W.tape ∧ (W.setCells g o seg).output = W.output ∧ (W.setCells g o seg).heap.size = W.heap.size
  | [], _, _ => ⟨rfl, rfl, rfl, rfl⟩
  | v :: r, o, W => by
    obtain ⟨h1, h2, h3, h4⟩ := setCells_env g r (o + 1) (W.setCell ⟨g, o, none⟩ v)
    exact ⟨h1, h2, h3, h4.trans (size_setCell' _ _ _)⟩
theorem cell_far_ (w : World) (p q : Addr) (h : q.block ≠ p.block) (v : Value) : (w.setCell p v).cell? q = w.cell? q := by
  have h2 := Below.heap_setCell w p v q.block h
  unfold World.cell?
  rw [h2]
theorem setCells7 {W : World} {g : Nat} {t : TypeId} {C : Array Value} {a0 a1 a2 a3 a4 a5 a6 : Value} (h : W.heap[g]? = some (.cells C t (0, 0))) (o : Nat) (hf : o + 7 ≤ C.size) : ∃ cur, (W.setCells g o [a0, a1, a2, a3, a4, a5, a6]).heap[g]? = some (.cells cur t (0, 0)) ∧ cur[o + 1]? = some a1 := by
  have h7 := blk_set (blk_set (blk_set (blk_set (blk_set (blk_set (blk_set h o a0) (o + 1) a1) (o + 1 + 1) a2) (o + 1 + 1 + 1) a3) (o + 1 + 1 + 1 + 1) a4) (o + 1 + 1 + 1 + 1 + 1) a5) (o + 1 + 1 + 1 + 1 + 1 + 1) a6
  refine ⟨_, h7, ?_⟩
  rw [Array.getElem?_setIfInBounds_ne (by omega), Array.getElem?_setIfInBounds_ne (by omega), Array.getElem?_setIfInBounds_ne (by omega), Array.getElem?_setIfInBounds_ne (by omega), Array.getElem?_setIfInBounds_ne (by omega), Array.getElem?_setIfInBounds_self_of_lt (by simp; omega)]
theorem Sp.ends {w wr w1 W1 W2 : World} {g o base : Nat} {ok : Nat → Prop} {f : Nat → Nat} {v5 : Value} {n g1 cap : Nat} {inner : List Value} {C cur : Array Value} {t : TypeId} {a0 a2 a3 a4 a5 a6 : Value}
    (hI : SpI w wr g base ok f v5 n inner (C.setIfInBounds (o + 1) (.string ⟨#[115, 112, 111, 105, 108, 116]⟩)) t n) (hg1 : wr.drew.grownBy w1 v5.ownBlock) (h0 : ∀ k, v5.ownBlock = some k → ok k)
    (hat : (Value.slice (some ⟨g1, 0, none⟩) (n + 1) cap).ownBlock = v5.ownBlock ∨ ∃ b, (Value.slice (some ⟨g1, 0, none⟩) (n + 1) cap).ownBlock = some b ∧ wr.drew.heap.size ≤ b)
    (hbg : w1.heap[g]? = some (.cells (C.setIfInBounds (o + 1) (.string ⟨#[115, 112, 111, 105, 108, 116]⟩)) t (0, 0))) (hh : w1.heap[g1]? = some (.cells cur 26 (0, 0))) (hfit : n * 7 + 7 ≤ cur.size) (hne : g1 ≠ g) (hrm : (n + 1) * 88 ≤ 140737488355328)
    (h : (W1 = World.setCells w1 g1 (n * 7) [a0, .string ⟨#[109, 111, 114, 101]⟩, a2, a3, a4, a5, a6] ∧ W2 = World.setCell W1 ⟨g, o + 5, none⟩ (.slice (some ⟨g1, 0, none⟩) (n + 1) cap)) ∨ (W1 = World.setCell w1 ⟨g, o + 5, none⟩ (.slice (some ⟨g1, 0, none⟩) (n + 1) cap) ∧ W2 = World.setCells W1 g1 (n * 7) [a0, .string ⟨#[109, 111, 114, 101]⟩, a2, a3, a4, a5, a6])) : Sp w W2 g o ok C t := by
  rcases h with ⟨h1, h2⟩ | ⟨h1, h2⟩
  · obtain ⟨e1, e2, e3, e4⟩ := setCells_env g1 [a0, .string ⟨#[109, 111, 114, 101]⟩, a2, a3, a4, a5, a6] (n * 7) w1
    have hfar := fun k (hk : k ≠ g1) => setCells_far (g := g1) [a0, .string ⟨#[109, 111, 114, 101]⟩, a2, a3, a4, a5, a6] (n * 7) (w := w1) k hk
    obtain ⟨cur7, h7, h7'⟩ := setCells7 (a0 := a0) (a1 := .string ⟨#[109, 111, 114, 101]⟩) (a2 := a2) (a3 := a3) (a4 := a4) (a5 := a5) (a6 := a6) hh (n * 7) hfit
    rw [← h1] at e1 e2 e3 e4 hfar h7
    have hs := size_setCell' W1 ⟨g, o + 5, none⟩ (.slice (some ⟨g1, 0, none⟩) (n + 1) cap)
    have hsf := fun k (hk : k ≠ g) => Below.heap_setCell W1 ⟨g, o + 5, none⟩ (.slice (some ⟨g1, 0, none⟩) (n + 1) cap) k hk
    have hb := blk_set ((hfar g (Ne.symm hne)).trans hbg) (o + 5) (.slice (some ⟨g1, 0, none⟩) (n + 1) cap)
    have f1 : (W1.setCell ⟨g, o + 5, none⟩ (.slice (some ⟨g1, 0, none⟩) (n + 1) cap)).os = W1.os := rfl
    have f2 : (W1.setCell ⟨g, o + 5, none⟩ (.slice (some ⟨g1, 0, none⟩) (n + 1) cap)).tape = W1.tape := rfl
    have f3 : (W1.setCell ⟨g, o + 5, none⟩ (.slice (some ⟨g1, 0, none⟩) (n + 1) cap)).output = W1.output := rfl
    rw [← h2] at hs hsf hb f1 f2 f3
    exact Sp.final hI hg1 h0 hat (f1.trans e1) (f2.trans e2) (f3.trans e3) (Nat.le_of_eq (hs.trans e4).symm) (fun b hb1 hb2 => (hsf b hb1).trans (hfar b hb2)) hb ((hsf g1 hne).trans h7) h7' hrm
  · have hb0 := blk_set hbg (o + 5) (.slice (some ⟨g1, 0, none⟩) (n + 1) cap)
    have hh0 := blk_far hh (p := ⟨g, o + 5, none⟩) hne (.slice (some ⟨g1, 0, none⟩) (n + 1) cap)
    have hs := size_setCell' w1 ⟨g, o + 5, none⟩ (.slice (some ⟨g1, 0, none⟩) (n + 1) cap)
    have hsf := fun k (hk : k ≠ g) => Below.heap_setCell w1 ⟨g, o + 5, none⟩ (.slice (some ⟨g1, 0, none⟩) (n + 1) cap) k hk
    have f1 : (w1.setCell ⟨g, o + 5, none⟩ (.slice (some ⟨g1, 0, none⟩) (n + 1) cap)).os = w1.os := rfl
    have f2 : (w1.setCell ⟨g, o + 5, none⟩ (.slice (some ⟨g1, 0, none⟩) (n + 1) cap)).tape = w1.tape := rfl
    have f3 : (w1.setCell ⟨g, o + 5, none⟩ (.slice (some ⟨g1, 0, none⟩) (n + 1) cap)).output = w1.output := rfl
    rw [← h1] at hb0 hh0 hs hsf f1 f2 f3
    obtain ⟨e1, e2, e3, e4⟩ := setCells_env g1 [a0, .string ⟨#[109, 111, 114, 101]⟩, a2, a3, a4, a5, a6] (n * 7) W1
    have hfar := fun k (hk : k ≠ g1) => setCells_far (g := g1) [a0, .string ⟨#[109, 111, 114, 101]⟩, a2, a3, a4, a5, a6] (n * 7) (w := W1) k hk
    obtain ⟨cur7, h7, h7'⟩ := setCells7 (a0 := a0) (a1 := .string ⟨#[109, 111, 114, 101]⟩) (a2 := a2) (a3 := a3) (a4 := a4) (a5 := a5) (a6 := a6) hh0 (n * 7) hfit
    rw [← h2] at e1 e2 e3 e4 hfar h7
    exact Sp.final hI hg1 h0 hat (e1.trans f1) (e2.trans f2) (e3.trans f3) (Nat.le_of_eq (e4.trans hs).symm) (fun b hb1 hb2 => (hfar b hb2).trans (hsf b hb1)) ((hfar g (Ne.symm hne)).trans hb0) h7 h7' hrm
theorem after_own {w w1 : World} {base g n : Nat} {A5 : Option Addr} {c5 : Nat} {v1 : Value} {xs zs : List Value} (h : w1.ownsRow base 26 7 v1 (n + 1) (xs ++ zs)) (hat : v1.ownBlock = (Value.slice A5 n c5).ownBlock ∨ ∃ b, v1.ownBlock = some b ∧ w.heap.size ≤ b) (hg : g < w.heap.size) (hne : some g ≠ (Value.slice A5 n c5).ownBlock) (hx : xs.length = n * 7) :
    ∃ g1 cap cur, v1 = .slice (some ⟨g1, 0, none⟩) (n + 1) cap ∧ w1.heap[g1]? = some (.cells cur 26 (0, 0)) ∧ (∀ j u, zs[j]? = some u → cur[n * 7 + j]? = some u) ∧ g ≠ g1 ∧ n * 7 + 7 ≤ cur.size := by
  rcases h.2 with ⟨_, h0⟩ | ⟨g1, cap, cur, rfl, hb, hh, hn, hm, hs, hin⟩
  · omega
  refine ⟨g1, cap, cur, rfl, hh, fun j u hj => ?_, ?_, by rw [hs]; have := Nat.mul_le_mul_right 7 hn; omega⟩
  · have hjl : j < zs.length := (List.getElem?_eq_some_iff.1 hj).1
    have hl := h.1
    rw [List.length_append] at hl
    have h2 : (xs ++ zs)[n * 7 + j]? = some u := by rw [List.getElem?_append_right (by omega), hx, Nat.add_sub_cancel_left]; exact hj
    rw [← hin, List.getElem?_take] at h2
    split at h2
    · simpa using h2
    · cases h2
  · rintro rfl
    rcases hat with h1 | ⟨b, h1, h2⟩
    · exact hne (by rw [← h1]; rfl)
    · injection h1 with h1
      have : g = b := h1
      omega
set_option maxHeartbeats 8000000 in
set_option maxRecDepth 100000 in
theorem spoilt_any : ∀ (n : Nat) (x : S26) (cs : List Value) (ok : Nat → Prop) (base g o : Nat) (C : Array Value) (t : TypeId) (w : World), (ksn n).M w base ok x cs → roomy n x → base ≤ w.heap.size →
    w.heap[g]? = some (.cells C t (0, 0)) → (∀ j u, cs[j]? = some u → C[o + j]? = some u) → ¬ ok g →
    Calls Try.prog 29 #[.pointer (some ⟨g, o, none⟩)] w fun e w' => e = .returned (.tuple #[]) ∧ Sp w w' g o ok C t := by
  intro n
  induction n with
  | zero => intro x cs ok base g o C t w hM; exact hM.elim
  | succ n ih =>
    intro x cs ok base g o C t w hM hroom hbase hg hcs hng
    have hM0 := hM
    obtain ⟨v5, rfl, h5⟩ := ksn_openM hM
    clear hM
    obtain ⟨A5, c5, rfl⟩ := Kd.S_slice h5
    have hu26 := Try.underlying26
    have z1 : w.cell? ⟨g, o + 1, none⟩ = some (.string x.f1) := (blk_cell hg (o + 1)).trans (hcs 1 _ rfl)
    have z5 : w.cell? ⟨g, o + 5, none⟩ = some (.slice A5 x.f5.length c5) := (blk_cell hg (o + 5)).trans (hcs 5 _ rfl)
    have y1 := blk_frozen hg (o + 1)
    have y5 := blk_frozen hg (o + 5)
    obtain ⟨f, h0, inner, ho, hr⟩ := h5
    have hlen : x.f5.zipIdx.length = x.f5.length := List.length_zipIdx
    rw [hlen] at ho
    have hsz : (Kd.tag f (ksn n)).sz = 7 := ksn_sz n
    rw [hsz] at ho hr
    have h1 : ∀ u ∈ inner, u.oneCell' = true := by
      intro u hu
      obtain ⟨j, hj⟩ := List.getElem?_of_mem hu
      have hjl : j < inner.length := (List.getElem?_eq_some_iff.1 hj).1
      rw [ho.1] at hjl
      have hq : j / 7 < x.f5.length := by omega
      have hp := hr.2 (j / 7) (x.f5[j / 7], j / 7) (by exact Kd.zip_at (List.getElem?_eq_getElem hq))
      refine (Kd.tag f (ksn n)).K_one ((Kd.tag f (ksn n)).K_of_M hp) u ?_
      refine List.mem_of_getElem? (i := j % 7) ?_
      rw [List.getElem?_take, if_pos (by omega), List.getElem?_drop, show j / 7 * 7 + j % 7 = j from by omega]
      exact hj
    have HI0 := Aside0.mk (SpI.start (o := o + 1) (f := f) (.string ⟨#[115, 112, 111, 105, 108, 116]⟩) hg hng h0 ho h1)
    have HZ5 := Aside0.mk (hcs 5 _ rfl)
    have HG := Aside0.mk hg
    have H0 := Aside0.mk h0
    have HRE := Aside0.mk hr
    have HN := Aside0.mk hng
    have HR := Aside0.mk hroom
    have HBS := Aside0.mk hbase
    have IH := Aside0.mk ih
    have HGL := Aside0.mk (blk_lt hg)
    have hC5 : ∀ u, (C.setIfInBounds (o + 1) u)[o + 5]? = some (.slice A5 x.f5.length c5) := by
      intro u
      rw [Array.getElem?_setIfInBounds_ne (by omega)]
      exact hcs 5 _ rfl
    have HC5 := Aside0.mk hC5
    have hmx : x.f5.length ≤ 140737488355328 := by have := hroom.1; omega
    have HM := Aside0.mk hM0
    clear hg hcs hng hroom hbase ih h0 ho hr hlen hsz h1 hC5 hM0
    go_enter Try.func29, Try.ntmps29
    go_wp2_with fail
    go_loopw [2] (fun i wr => ∃ k : Nat, i = .int .i64 (k : Int) ∧ k ≤ x.f5.length ∧ Aside0 (SpI w wr g base ok f (.slice A5 x.f5.length c5) x.f5.length inner (C.setIfInBounds (o + 1) (.string ⟨#[115, 112, 111, 105, 108, 116]⟩)) t k)) (fun i _ => x.f5.length - (intOf i).toNat)
    case atStart => exact ⟨0, rfl, Nat.zero_le _, HI0⟩
    case round =>
      clear HI0 z1 z5 y1 y5
      obtain ⟨k, rfl, hk, HI⟩ := hrel
      have z5 : wr.cell? ⟨g, o + 5, none⟩ = some (.slice A5 x.f5.length c5) := (blk_cell HI.out.blk (o + 5)).trans (HC5.out _)
      have y5 := blk_frozen HI.out.blk (o + 5)
      by_cases hlt : k < x.f5.length
      · obtain ⟨inner', hrow, hone, hsame⟩ := HI.out.row
        rcases hrow.2 with ⟨_, hn0⟩ | ⟨g5, cap, cur, hv, hb5, hh5, hcap, hmax, hsz, hin⟩
        · omega
        injection hv with hA _ hcc
        subst hA
        subst hcc
        have hp : (ksn n).M w base (fun b => (ok b ∧ some b ≠ (Value.slice (some ⟨g5, 0, none⟩) x.f5.length c5).ownBlock) ∧ f b = k) x.f5[k] ((inner.drop (k * 7)).take 7) := HRE.out.2 k (x.f5[k], k) (Kd.zip_at (List.getElem?_eq_getElem hlt))
        have hown : ok g5 := H0.out g5 rfl
        have hMk := Kd.M_step (w1 := wr) hp (fun b hb hbw => HI.out.rest b hbw hb.1.1 hb.1.2 (by have := hb.2; omega))
        have HP := Aside0.mk hMk
        have HV := Aside0.mk hh5
        have HST := Aside0.mk (fun (w' : World) (hs : Sp wr w' g5 (k * 7) (fun b => (ok b ∧ some b ≠ (Value.slice (some ⟨g5, 0, none⟩) x.f5.length c5).ownBlock) ∧ f b = k) cur 26) => SpI.step HI.out hlt rfl hb5 hh5 hcap hmax hsz hin hrow.1 hone hsame HN.out hown HGL.out hs)
        have hseg : ∀ (j : Nat) (u : Value), ((inner.drop (k * 7)).take 7)[j]? = some u → cur[k * 7 + j]? = some u := by
          intro j u hu
          rw [List.getElem?_take] at hu
          split at hu
          · rw [List.getElem?_drop, ← hsame _ (by omega), ← hin, List.getElem?_take] at hu
            split at hu
            · simpa using hu
            · cases hu
          · cases hu
        have HSEG := Aside0.mk hseg
        have HOW := Aside0.mk hown
        clear hrow hone hsame hb5 hh5 hcap hmax hsz hin hp hown hMk hseg
        have HRK := Aside0.mk (HR.out.2 x.f5[k] (List.getElem_mem hlt))
        go_wp2_with (go_at_call 29; refine (IH.out x.f5[k] _ _ base g5 (k * 7) cur 26 wr HP.out HRK.out (Nat.le_trans HBS.out HI.out.size) HV.out HSEG.out (fun h => h.1.2 rfl)).mono ?_; rintro e w' ⟨rfl, hs⟩; have HS := Aside0.mk hs; clear hs)
        go_roundw
        case rel => exact ⟨k + 1, by go_num, by omega, ⟨HST.out _ HS.out⟩⟩
        case measure => simp [intOf]; omega
      · obtain rfl : k = x.f5.length := by omega
        obtain ⟨inner', hrow, hone, hsame⟩ := HI.out.row
        have HRW := Aside0.mk hrow
        have HONE := Aside0.mk hone
        have HRM := Aside0.mk HR.out.1
        have HNE : Aside0 (some g ≠ (Value.slice A5 x.f5.length c5).ownBlock) := ⟨fun e => HN.out (H0.out g e.symm)⟩
        have HC5L : Aside0 (o + 5 + [Value.slice none 0 0].length ≤ (C.setIfInBounds (o + 1) (.string ⟨#[115, 112, 111, 105, 108, 116]⟩)).size) := ⟨by have h_ := (Array.getElem?_eq_some_iff.1 (HC5.out (.string ⟨#[115, 112, 111, 105, 108, 116]⟩))).1; simp only [List.length_cons, List.length_nil]; omega⟩
        clear hrow hone hsame hlt
        go_wp2_with fail
        refine start_ (n := 13) (S := fun w' => w'.cell? ⟨g, o + 5, none⟩ = some (.slice A5 x.f5.length c5)) (ds := [9, 12]) #[false, false, false, false, false, false, false, false, false, false, false, false, false] (by kernel_rfl) rfl rfl (by exact z5) (fun hHeld => ?_)
        refine pure_ (i := 0) (N := some 22) (v := ?_) (a' := ?_) #[true, false, false, false, false, false, false, false, false, false, false, false, false] rfl rfl (by kernel_rfl) (fun _ _ _ h => h) (Or.inl ⟨by rfl, ?_⟩) ?_ ?_
        rotate_left
        · intro w'
          go_simp
          with_reducible rfl
        rotate_left
        · simp only [Act.put, List.setIfInBounds_toArray, List.set_cons_zero, List.set_cons_succ, i64_w, i32_w]
          rfl
        refine pure_ (i := 1) (N := some 23) (v := ?_) (a' := ?_) #[true, true, false, false, false, false, false, false, false, false, false, false, false] rfl rfl (by kernel_rfl) (fun _ _ _ h => h) (Or.inl ⟨by rfl, ?_⟩) ?_ ?_
        rotate_left
        · intro w'
          go_simp
          with_reducible rfl
        rotate_left
        · simp only [Act.put, List.setIfInBounds_toArray, List.set_cons_zero, List.set_cons_succ, i64_w, i32_w]
          rfl
        refine pure_ (i := 2) (N := some 24) (v := ?_) (a' := ?_) #[true, true, true, false, false, false, false, false, false, false, false, false, false] rfl rfl (by kernel_rfl) (fun _ _ _ h => h) (Or.inl ⟨by rfl, ?_⟩) ?_ ?_
        rotate_left
        · intro w'
          go_simp
          with_reducible rfl
        rotate_left
        · simp only [Act.put, List.setIfInBounds_toArray, List.set_cons_zero, List.set_cons_succ, i64_w, i32_w]
          rfl
        refine take_ (i := 3) (N := some 25) (v := ?_) (a' := ?_) #[true, true, true, true, false, false, false, false, false, false, false, false, false] rfl rfl (by kernel_rfl) (fun _ _ _ h => h) (Or.inl ⟨by rfl, ?_⟩) hHeld ?_ ?_
        rotate_left
        · intro w' s0
          go_simp
          with_reducible rfl
        rotate_left
        · simp only [Act.put, List.setIfInBounds_toArray, List.set_cons_zero, List.set_cons_succ, i64_w, i32_w]
          rfl
        refine pure_ (i := 4) (N := some 26) (v := ?_) (a' := ?_) #[true, true, true, true, true, false, false, false, false, false, false, false, false] rfl rfl (by kernel_rfl) (fun _ _ _ h => h) (Or.inl ⟨by rfl, ?_⟩) ?_ ?_
        rotate_left
        · intro w'
          go_simp
          with_reducible rfl
        rotate_left
        · simp only [Act.put, List.setIfInBounds_toArray, List.set_cons_zero, List.set_cons_succ, i64_w, i32_w]
          rfl
        refine pure_ (i := 5) (N := some 27) (v := ?_) (a' := ?_) #[true, true, true, true, true, true, false, false, false, false, false, false, false] rfl rfl (by kernel_rfl) (fun _ _ _ h => h) (Or.inl ⟨by rfl, ?_⟩) ?_ ?_
        rotate_left
        · intro w'
          go_simp
          with_reducible rfl
        rotate_left
        · simp only [Act.put, List.setIfInBounds_toArray, List.set_cons_zero, List.set_cons_succ, i64_w, i32_w]
          rfl
        refine one_ (i := 6) (N := some 28) #[true, true, true, true, true, true, true, false, false, false, false, false, false] rfl rfl (by kernel_rfl) (by decide) (fun K hK => ?_)
        refine value_ (v := .slice (some ⟨wr.heap.size, 0, none⟩) 1 1) (w1 := wr.drew.alloc (.cells #[.int .i64 0, .string ⟨#[]⟩, .int .u32 0, .int .i64 0, .string ⟨#[]⟩, .slice none 0 0, .int .i64 0] 26)) rfl rfl ?_ ?_
        · go_simp
        refine hK.out _ _ (by show (wr.drew.alloc _).cell? _ = _; exact pw_cell_below (below_alloc (Below.refl _ _) _) hHeld) (fun hHeld => ?_)
        clear hK K
        refine norm_ (a' := ?_) ?_ ?_
        rotate_left
        · show Act.put _ (some 28) _ = _
          simp only [Act.put, List.setIfInBounds_toArray, List.set_cons_zero, List.set_cons_succ, i64_w, i32_w]
          rfl
        refine one_ (i := 7) (N := some 29) #[true, true, true, true, true, true, true, true, false, false, false, false, false] rfl rfl (by kernel_rfl) (by decide) (fun K hK => ?_)
        (refine step_append_cells (W := wr.drew) base (by rfl) (.tmp 25) (.tmp 28) 24 26 (.agg #[(.int .i64 0), (.string ⟨#[]⟩), (.int .u32 0), (.int .i64 0), (.string ⟨#[]⟩), (.slice none 0 0), (.int .i64 0)]) 7 88 (by rfl) Try.underlying24 info26 rfl (by decide) (by decide) (.slice A5 x.f5.length c5) x.f5.length inner' [(.int .i64 0), (.string ⟨#[]⟩), (.int .u32 0), (.int .i64 0), (.string ⟨#[]⟩), (.slice none 0 0), (.int .i64 0)] (by rfl) (by rfl) rfl (by simp [Value.oneCell']) HRW.out.drew (Below.refl _ _) (by have h1_ := HBS.out; have h2_ := HI.out.size; show base ≤ wr.heap.size; omega) HRM.out ?_; intro v1 w1 hown1 hb1 hg1 hat1; obtain ⟨g1, cap1, cur1, rfl, hh1, hcur, hne1, hfit⟩ := after_own hown1 hat1 (blk_lt HI.out.blk) HNE.out HRW.out.1; have hbg := blk_grown (show wr.drew.heap[g]? = _ from HI.out.blk) hg1 HNE.out; have zz5 : w1.cell? ⟨g, o + 5, none⟩ = some (.slice A5 x.f5.length c5) := (blk_cell hbg (o + 5)).trans (HC5.out _); have yy5 := blk_frozen hbg (o + 5); have hne2 : g1 ≠ g := Ne.symm hne1; have hi0 : (0 : Int) ≤ (x.f5.length : Int) := Int.natCast_nonneg _; have hi1 : (x.f5.length : Int) < ((x.f5.length + 1 : Nat) : Int) := (by omega); have hi2 : (x.f5.length : Int) < (x.f5.length : Int) + 1 := (by omega); have HH1 := Aside0.mk hh1; have HBG := Aside0.mk hbg; have HG1 := Aside0.mk hg1; have HOW1 := Aside0.mk hown1; have HAT1 := Aside0.mk hat1; have HFIT := Aside0.mk hfit; have HNE2 := Aside0.mk hne2; replace hi0 := eq_true hi0; replace hi1 := eq_true hi1; replace hi2 := eq_true hi2; clear hh1 hbg hg1 hown1 hat1 hcur hb1 hfit hne1 hne2)
        refine hK.out _ _ zz5 (fun hHeld => ?_)
        clear hK K
        refine norm_ (a' := ?_) ?_ ?_
        rotate_left
        · show Act.put _ (some 29) _ = _
          simp only [Act.put, List.setIfInBounds_toArray, List.set_cons_zero, List.set_cons_succ, i64_w, i32_w]
          rfl
        refine pure_ (i := 8) (N := some 30) (v := ?_) (a' := ?_) #[true, true, true, true, true, true, true, true, true, false, false, false, false] rfl rfl (by kernel_rfl) (fun _ _ _ h => h) (Or.inl ⟨by rfl, ?_⟩) ?_ ?_
        rotate_left
        · intro w'
          go_simp
          with_reducible rfl
        rotate_left
        · simp only [Act.put, List.setIfInBounds_toArray, List.set_cons_zero, List.set_cons_succ, i64_w, i32_w]
          rfl
        refine pure_ (i := 10) (N := some 31) (v := ?_) (a' := ?_) #[true, true, true, true, true, true, true, true, true, false, true, false, false] rfl rfl (by kernel_rfl) (fun _ _ _ h => h) (Or.inl ⟨by rfl, ?_⟩) ?_ ?_
        rotate_left
        · intro w'
          go_simp
          with_reducible rfl
        rotate_left
        · simp only [Act.put, List.setIfInBounds_toArray, List.set_cons_zero, List.set_cons_succ, i64_w, i32_w]
          rfl
        refine pure_ (i := 11) (N := some 32) (v := ?_) (a' := ?_) #[true, true, true, true, true, true, true, true, true, false, true, true, false] rfl rfl (by kernel_rfl) (fun _ _ _ h => h) (Or.inl ⟨by rfl, ?_⟩) ?_ ?_
        rotate_left
        · intro w'
          go_simp
          with_reducible rfl
        rotate_left
        · simp only [Act.put, List.setIfInBounds_toArray, List.set_cons_zero, List.set_cons_succ, i64_w, i32_w]
          rfl
        obtain ⟨WA, hWA⟩ : ∃ W, W = World.setCells w1 g1 (x.f5.length * 7) [.int .i64 0, .string ⟨#[109, 111, 114, 101]⟩, .int .u32 0, .int .i64 0, .string ⟨#[]⟩, .slice none 0 0, .int .i64 0] := ⟨_, rfl⟩
        have RWA : (Instr.storeAt 26 (.pointer (some ⟨g1, x.f5.length * 7, none⟩)) (.agg #[.int .i64 0, .string ⟨#[109, 111, 114, 101]⟩, .int .u32 0, .int .i64 0, .string ⟨#[]⟩, .slice none 0 0, .int .i64 0])).run Try.prog w1 = .ok () WA := by rw [hWA]; exact run_store_run (cur := cur1) (e := 26) 26 _ _ HH1.out rfl (by kernel_rfl) HFIT.out (by simp [Value.oneCell'])
        have HRWA := Aside0.mk RWA
        have HEWA := Aside0.mk hWA
        clear RWA hWA
        obtain ⟨WB, hWB⟩ : ∃ W, W = World.setCell WA ⟨g, o + 5, none⟩ (.slice (some ⟨g1, 0, none⟩) (x.f5.length + 1) cap1) := ⟨_, rfl⟩
        have RWB : (Instr.storeAt 24 (.pointer (some ⟨g, o + 5, none⟩)) (.slice (some ⟨g1, 0, none⟩) (x.f5.length + 1) cap1)).run Try.prog WA = .ok () WB := by rw [hWB]; exact run_store_run (e := t) 24 _ [.slice (some ⟨g1, 0, none⟩) (x.f5.length + 1) cap1] (by rw [HEWA.out]; exact (setCells_far _ _ g (Ne.symm HNE2.out)).trans HBG.out) rfl (by kernel_rfl) HC5L.out (by simp [Value.oneCell'])
        have HRWB := Aside0.mk RWB
        have HEWB := Aside0.mk hWB
        clear RWB hWB
        obtain ⟨WC, hWC⟩ : ∃ W, W = World.setCell w1 ⟨g, o + 5, none⟩ (.slice (some ⟨g1, 0, none⟩) (x.f5.length + 1) cap1) := ⟨_, rfl⟩
        have RWC : (Instr.storeAt 24 (.pointer (some ⟨g, o + 5, none⟩)) (.slice (some ⟨g1, 0, none⟩) (x.f5.length + 1) cap1)).run Try.prog w1 = .ok () WC := by rw [hWC]; exact run_store_run (e := t) 24 _ [.slice (some ⟨g1, 0, none⟩) (x.f5.length + 1) cap1] HBG.out rfl (by kernel_rfl) HC5L.out (by simp [Value.oneCell'])
        have HRWC := Aside0.mk RWC
        have HEWC := Aside0.mk hWC
        clear RWC hWC
        obtain ⟨WD, hWD⟩ : ∃ W, W = World.setCells WC g1 (x.f5.length * 7) [.int .i64 0, .string ⟨#[109, 111, 114, 101]⟩, .int .u32 0, .int .i64 0, .string ⟨#[]⟩, .slice none 0 0, .int .i64 0] := ⟨_, rfl⟩
        have RWD : (Instr.storeAt 26 (.pointer (some ⟨g1, x.f5.length * 7, none⟩)) (.agg #[.int .i64 0, .string ⟨#[109, 111, 114, 101]⟩, .int .u32 0, .int .i64 0, .string ⟨#[]⟩, .slice none 0 0, .int .i64 0])).run Try.prog WC = .ok () WD := by rw [hWD]; exact run_store_run (cur := cur1) (e := 26) 26 _ _ (by rw [HEWC.out]; exact blk_far HH1.out HNE2.out _) rfl (by kernel_rfl) HFIT.out (by simp [Value.oneCell'])
        have HRWD := Aside0.mk RWD
        have HEWD := Aside0.mk hWD
        clear RWD hWD
        refine twoL_ (i := 9) (j := 12) (Ni := none) (Nj := none) #[true, true, true, true, true, true, true, true, true, true, true, true, false] #[true, true, true, true, true, true, true, true, true, false, true, true, true] rfl rfl rfl rfl (by kernel_rfl) (by decide) (by decide) (fun K hK => ?_) (fun K hK => ?_)
        · refine skip_ (w1 := WA) rfl rfl (run_store_op 26 (.tmp 30) (.tmp 26) rfl _ (.agg #[.int .i64 0, .string ⟨#[109, 111, 114, 101]⟩, .int .u32 0, .int .i64 0, .string ⟨#[]⟩, .slice none 0 0, .int .i64 0]) rfl rfl HRWA.out) ?_
          refine hK.out _ _ ?_
          clear hK K
          refine last_ (i := 12) (N := none) #[true, true, true, true, true, true, true, true, true, true, true, true, true] rfl rfl (by kernel_rfl) (by decide) ?_
          intro K hK
          refine skip_ (w1 := WB) rfl rfl (run_store_op 24 (.tmp 32) (.tmp 29) rfl _ (.slice (some ⟨g1, 0, none⟩) (x.f5.length + 1) cap1) rfl rfl HRWB.out) ?_
          refine hK.out _ _ ?_
          clear hK K
          refine done_ (by kernel_rfl) ?_
          go_wp2
          go_end0
          exact ⟨rfl, Sp.ends HI.out HG1.out H0.out HAT1.out HBG.out HH1.out HFIT.out HNE2.out HRM.out (.inl ⟨HEWA.out, HEWB.out⟩)⟩
        · refine skip_ (w1 := WC) rfl rfl (run_store_op 24 (.tmp 32) (.tmp 29) rfl _ (.slice (some ⟨g1, 0, none⟩) (x.f5.length + 1) cap1) rfl rfl HRWC.out) ?_
          refine hK.out _ _ ?_
          clear hK K
          refine last_ (i := 9) (N := none) #[true, true, true, true, true, true, true, true, true, true, true, true, true] rfl rfl (by kernel_rfl) (by decide) ?_
          intro K hK
          refine skip_ (w1 := WD) rfl rfl (run_store_op 26 (.tmp 30) (.tmp 26) rfl _ (.agg #[.int .i64 0, .string ⟨#[109, 111, 114, 101]⟩, .int .u32 0, .int .i64 0, .string ⟨#[]⟩, .slice none 0 0, .int .i64 0]) rfl rfl HRWD.out) ?_
          refine hK.out _ _ ?_
          clear hK K
          refine done_ (by kernel_rfl) ?_
          go_wp2
          go_end0
          exact ⟨rfl, Sp.ends HI.out HG1.out H0.out HAT1.out HBG.out HH1.out HFIT.out HNE2.out HRM.out (.inr ⟨HEWC.out, HEWD.out⟩)⟩
end Go.Proofs.Ytbfomjbencbmlaa.Q
