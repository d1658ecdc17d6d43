/- Trees whose lists lie apart, however deep. Conditions: those that each theorem names. -/
import Derived.Test.YtbfomjbencbmlaaSpoilA
namespace Go.Proofs.Ytbfomjbencbmlaa.Q
open Go.RowKit Go.Proofs.YtbfomjbencbmlaaW.PrintWords Go.Proofs.YtbfomjbencbmlaaW.PrintLast Go.Proofs.YtbfomjbencbmlaaW.PrintMore
set_option linter.unusedVariables false
set_option linter.unusedSimpArgs false
def ksf : Kd S26 := Kd.fix FS26 7 [26] ksn_sz (fun n q h => by rw [ksn_E n q h]; exact List.mem_cons_self)
theorem S_fix {n e : Nat} {w : World} {base : Nat} {ok : Nat → Prop} {v : Value} {xs : List S26} (h : Kd.S (ksn n) e w base ok v xs) : Kd.S ksf e w base ok v xs := S_imp (d := ksn n) (d' := ksf) ((ksn_sz n).symm ▸ rfl) (fun _ _ _ hM => ⟨n, hM⟩) h
theorem common {P : Nat → Nat → Prop} (hm : ∀ j n n', n ≤ n' → P j n → P j n') : ∀ m, (∀ j, j < m → ∃ n, P j n) → ∃ N, ∀ j, j < m → P j N
  | 0, _ => ⟨0, fun _ h => absurd h (Nat.not_lt_zero _)⟩
  | m + 1, h => by
    obtain ⟨N, hN⟩ := common hm m (fun j hj => h j (by omega))
    obtain ⟨n, hn⟩ := h m (by omega)
    refine ⟨max N n, fun j hj => ?_⟩
    by_cases e : j = m
    · subst e; exact hm _ _ _ (Nat.le_max_right _ _) hn
    · exact hm _ _ _ (Nat.le_max_left _ _) (hN j (by omega))
theorem S_back {e : Nat} {w : World} {base : Nat} {ok : Nat → Prop} {v : Value} {xs : List S26} (h : Kd.S ksf e w base ok v xs) : ∃ n, Kd.S (ksn n) e w base ok v xs := by
  obtain ⟨f, h0, inner, ho, hr⟩ := h
  have hl : xs.zipIdx.length = xs.length := List.length_zipIdx
  obtain ⟨N, hN⟩ := common (P := fun j n => ∀ p, xs.zipIdx[j]? = some p → (Kd.tag f (ksn n)).M w base (fun k => ok k ∧ some k ≠ v.ownBlock) p ((inner.drop (j * 7)).take 7)) (fun j n n' hn h p hp => ksn_le hn (h p hp)) xs.length (fun j hj => by
    have hp := Kd.zip_at (List.getElem?_eq_getElem hj)
    obtain ⟨n, hn⟩ := hr.2 j _ hp
    refine ⟨n, fun p hp2 => ?_⟩
    rw [hp] at hp2
    injection hp2 with hp2
    subst hp2
    exact hn)
  refine ⟨N, f, h0, inner, by show w.ownsRow base e (ksn N).sz v _ inner; rw [ksn_sz]; exact ho, by show inner.length = _ * (ksn N).sz; rw [ksn_sz]; exact hr.1, fun j p hj => ?_⟩
  have hjl : j < xs.length := by have := (List.getElem?_eq_some_iff.1 hj).1; omega
  show (Kd.tag f (ksn N)).M _ _ _ _ ((inner.drop (j * (ksn N).sz)).take (ksn N).sz)
  rw [ksn_sz]
  exact hN j hjl p hj
theorem ksf_openM {w : World} {base : Nat} {ok : Nat → Prop} {x : S26} {cs : List Value} (h : ksf.M w base ok x cs) : ∃ v5, cs = [.int .i64 x.f0, .string x.f1, .int .u32 x.f2, .int .i64 x.f3, .string x.f4, v5, .int .i64 x.f6] ∧ Kd.S ksf 26 w base ok v5 x.f5 := by
  obtain ⟨n, h⟩ := h
  cases n with
  | zero => exact h.elim
  | succ n =>
    obtain ⟨v5, rfl, h5⟩ := ksn_openM h
    exact ⟨v5, rfl, S_fix h5⟩
theorem ksf_mkM (w : World) (base : Nat) (ok : Nat → Prop) (x : S26) {v5 : Value} (g5 : Kd.S ksf 26 w base ok v5 x.f5) : ksf.M w base ok x [.int .i64 x.f0, .string x.f1, .int .u32 x.f2, .int .i64 x.f3, .string x.f4, v5, .int .i64 x.f6] := by
  obtain ⟨n, h⟩ := S_back g5
  exact ⟨n + 1, ksn_mkM w base ok x h⟩
theorem S_kf {w : World} {base : Nat} {ok : Nat → Prop} {v : Value} {xs : List S26} (h : Kd.S ksf 26 w base ok v xs) : k26.R 26 w base ok v xs := by
  obtain ⟨n, h⟩ := S_back h
  exact S_k h
theorem strip_pack {α : Type} {d : Kd α} {e base g1 g2 g3 : Nat} {w1 W : World} {oku : Nat → Prop} {u v : Value} {xs ys : List α} {o1 o2 o3 : Obj} (ho : Kd.S d e w1 W.heap.size (fun _ => True) v xs) (hb : Below W.heap.size W w1) (hu : Kd.S d e W base oku u ys)
    (h1 : W.heap[g1]? = some o1) (h2 : W.heap[g2]? = some o2) (h3 : W.heap[g3]? = some o3) (hbase : base ≤ W.heap.size) :
    ∃ N0, Kd.S d e w1 base (fun k => N0 ≤ k) v xs ∧ Kd.S d e w1 base (fun k => oku k ∧ k < N0) u ys ∧ g1 < N0 ∧ g2 < N0 ∧ g3 < N0 ∧ ∀ k, u.ownBlock = some k → k < N0 :=
  ⟨W.heap.size, Kd.S_mono (Kd.S_lower (Kd.S_bound ho) hbase) (fun _ hk => hk.2.1), Kd.S_old hu hb, blk_lt h1, blk_lt h2, blk_lt h3, Kd.S_lt hu⟩
end Go.Proofs.Ytbfomjbencbmlaa.Q
