/- The statement BitsNeighbours over the printed Lean functions: it answers true for every pattern. Conditions: the numbers are of their kinds. -/
import Derived.Test.YtjmhlmfiodhjhaaPureA
namespace Go.Proofs.Ytjmhlmfiodhjhaa.Pure
set_option linter.unusedVariables false
open Go.RowKit Go.Proofs.Ytjmhlmfiodhjhaa.Q Go.Proofs.YtjmhlmfiodhjhaaW.PrintWords Go.Proofs.YtjmhlmfiodhjhaaW.PrintLast

theorem nxt_range (a : Int) (h0 : 0 ≤ a) (h1 : a ≤ 4294967295) : 0 ≤ nxt a ∧ nxt a ≤ 4294967295 := by
  unfold nxt
  split
  · omega
  · rename_i hn
    split
    · omega
    · rename_i h
      have := key_top a h0 h1 hn h
      exact back_range _ (by omega) (by omega)
theorem prv_range (a : Int) (h0 : 0 ≤ a) (h1 : a ≤ 4294967295) : 0 ≤ prv a ∧ prv a ≤ 4294967295 := by
  unfold prv
  split
  · omega
  · rename_i hn
    split
    · omega
    · rename_i h
      have := key_bot a h0 h1 hn h
      exact back_range _ (by omega) (by omega)
theorem prv_nxt (a : Int) (h0 : 0 ≤ a) (h1 : a ≤ 4294967295) (hn : ¬ nan a = true) (h : a ≠ 2139095040) : prv (nxt a) = a := by
  have ht := key_top a h0 h1 hn h
  have e : nxt a = back (key a + 1) := by unfold nxt; rw [if_neg hn, if_neg h]
  have hr := back_range (key a + 1) (by omega) (by omega)
  have hk := key_back (key a + 1) (by omega) (by omega)
  have hn' : ¬ nan (back (key a + 1)) = true := by rw [nan_key _ hr.1 hr.2, hk, decide_eq_true_eq]; omega
  have hne : back (key a + 1) ≠ 4286578688 := by
    intro hh
    rw [hh] at hk
    have : key 4286578688 = -2139095041 := by decide
    omega
  rw [e]; unfold prv
  rw [if_neg hn', if_neg hne, hk, show key a + 1 - 1 = key a from by omega, back_key a h0 h1]
theorem nxt_prv (a : Int) (h0 : 0 ≤ a) (h1 : a ≤ 4294967295) (hn : ¬ nan a = true) (h : a ≠ 4286578688) : nxt (prv a) = a := by
  have ht := key_bot a h0 h1 hn h
  have e : prv a = back (key a - 1) := by unfold prv; rw [if_neg hn, if_neg h]
  have hr := back_range (key a - 1) (by omega) (by omega)
  have hk := key_back (key a - 1) (by omega) (by omega)
  have hn' : ¬ nan (back (key a - 1)) = true := by rw [nan_key _ hr.1 hr.2, hk, decide_eq_true_eq]; omega
  have hne : back (key a - 1) ≠ 2139095040 := by
    intro hh
    rw [hh] at hk
    have : key 2139095040 = 2139095040 := by decide
    omega
  rw [e]; unfold nxt
  rw [if_neg hn', if_neg hne, hk, show key a - 1 + 1 = key a from by omega, back_key a h0 h1]
theorem BitsNeighbours : lathelaw01_BitsNeighbours.Pure := by
  intro a ha
  obtain ⟨h0, h1⟩ := wf32 ha
  have hx := nxt_range a h0 h1
  have hp := prv_range a h0 h1
  refine ⟨22, ?_⟩
  unfold lathelaw01_BitsNeighbours.f
  rw [wr a (by omega) (by omega), nexts 21 a h0 h1, prevs 21 a h0 h1, nexts_ref a h0 h1, prevs_ref a h0 h1]
  simp only [Option.bind_some]
  rw [wr _ (by omega) (by omega), if_pos rfl, wr _ (by omega) (by omega)]
  rw [show (prv a != prv a) = false from by simp, lathelaw01_BitsNeighbours.j0, if_neg (by decide), keys 20 a h0 h1]
  simp only [Option.bind_some]
  rw [surely_k 1, nexts 20 _ hp.1 hp.2, prevs 20 _ hx.1 hx.2]
  simp only [Option.bind_some]
  by_cases hn : nan a = true
  · rw [if_pos hn, if_neg (by decide), if_pos (by unfold nxt; rw [if_pos hn]), if_pos (by unfold prv; rw [if_pos hn])]
  · rw [if_neg hn, if_pos rfl]
    by_cases c1 : a = 2139095040
    · rw [if_pos c1, if_neg (by omega), nxt_prv a h0 h1 hn (by omega), if_pos rfl]
    · rw [if_neg c1, prv_nxt a h0 h1 hn c1, if_pos rfl]
      by_cases c2 : a = 4286578688
      · rw [if_pos c2]
      · rw [if_neg c2, nxt_prv a h0 h1 hn c2, if_pos rfl]

end Go.Proofs.Ytjmhlmfiodhjhaa.Pure
