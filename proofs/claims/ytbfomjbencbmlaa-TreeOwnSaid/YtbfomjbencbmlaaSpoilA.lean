/- Trees whose lists lie apart, all the way down: their kind, and what stays of them. Conditions: those that each theorem names. -/
import Derived.Test.YtbfomjbencbmlaaQx0
namespace Go.Proofs.Ytbfomjbencbmlaa.Q
open Go.RowKit Go.Proofs.YtbfomjbencbmlaaW.PrintWords Go.Proofs.YtbfomjbencbmlaaW.PrintLast Go.Proofs.YtbfomjbencbmlaaW.PrintMore
set_option linter.unusedVariables false
set_option linter.unusedSimpArgs false
/-- A slice whose elements lie apart. -/
def sliceS {α : Type} (e : Nat) (d : Kd α) : Kd (List α) where
  sz := 1
  E := e :: d.E
  K := (Kd.slice e d).K
  M := fun w base ok xs cs => ∃ v, cs = [v] ∧ Kd.S d e w base ok v xs
  K_len := (Kd.slice e d).K_len
  K_one := (Kd.slice e d).K_one
  K_below := (Kd.slice e d).K_below
  K_of_M := by
    rintro w base ok x cs ⟨v, rfl, h⟩
    exact (Kd.slice e d).K_of_M ⟨v, rfl, Kd.S_R h⟩
  M_mono := by
    rintro w base ok ok' x cs hok ⟨v, rfl, h⟩
    exact ⟨v, rfl, Kd.S_mono h hok⟩
  M_bound := by
    rintro w base ok x cs ⟨v, rfl, h⟩
    exact ⟨v, rfl, Kd.S_bound h⟩
  M_move := by
    rintro w w1 base ok x cs hm ⟨v, rfl, h⟩
    exact ⟨v, rfl, Kd.S_move h hm⟩
  M_lower := by
    rintro w base base' ok x cs hb ⟨v, rfl, h⟩
    exact ⟨v, rfl, Kd.S_lower h hb⟩
def FS26 (d : Kd S26) : Kd S26 := Kd.iso (Kd.pair (Kd.int .i64) (Kd.pair Kd.string (Kd.pair (Kd.int .u32) (Kd.pair (Kd.int .i64) (Kd.pair Kd.string (Kd.pair (sliceS 26 d) (Kd.int .i64))))))) (fun x : S26 => (x.f0, x.f1, x.f2, x.f3, x.f4, x.f5, x.f6))
/-- Nested at most n deep. -/
def ksn : Nat → Kd S26 := Kd.upto FS26 7 [26]
theorem ksn_sz : ∀ n, (ksn n).sz = 7 := Kd.upto_sz (fun _ => rfl)
theorem ksn_E : ∀ n q, q ∈ (ksn n).E → q = 26
  | 0, q, h => by simpa [ksn, Kd.upto, Kd.bot] using h
  | n + 1, q, h => by
    have h2 : q ∈ (FS26 (ksn n)).E := h
    simp only [FS26, Kd.iso, Kd.pair, sliceS, Kd.int, Kd.string, Kd.scalar, List.nil_append, List.append_nil, List.mem_cons] at h2
    rcases h2 with h2 | h2
    · exact h2
    · exact ksn_E n q h2
theorem ksn_openM {n : Nat} {w : World} {base : Nat} {ok : Nat → Prop} {x : S26} {cs : List Value} (h : (ksn (n + 1)).M w base ok x cs) : ∃ v5, cs = [.int .i64 x.f0, .string x.f1, .int .u32 x.f2, .int .i64 x.f3, .string x.f4, v5, .int .i64 x.f6] ∧ Kd.S (ksn n) 26 w base ok v5 x.f5 := by
  obtain ⟨_, _, rfl, rfl, ⟨_, _, rfl, rfl, ⟨_, _, rfl, rfl, ⟨_, _, rfl, rfl, ⟨_, _, rfl, rfl, ⟨_, _, rfl, ⟨v5, rfl, g5⟩, rfl⟩⟩⟩⟩⟩⟩ := h
  exact ⟨v5, rfl, g5⟩
theorem ksn_mkM {n : Nat} (w : World) (base : Nat) (ok : Nat → Prop) (x : S26) {v5 : Value} (g5 : Kd.S (ksn n) 26 w base ok v5 x.f5) : (ksn (n + 1)).M w base ok x [.int .i64 x.f0, .string x.f1, .int .u32 x.f2, .int .i64 x.f3, .string x.f4, v5, .int .i64 x.f6] :=
  ⟨[.int .i64 x.f0], [.string x.f1, .int .u32 x.f2, .int .i64 x.f3, .string x.f4, v5, .int .i64 x.f6], rfl, rfl, ⟨[.string x.f1], [.int .u32 x.f2, .int .i64 x.f3, .string x.f4, v5, .int .i64 x.f6], rfl, rfl, ⟨[.int .u32 x.f2], [.int .i64 x.f3, .string x.f4, v5, .int .i64 x.f6], rfl, rfl, ⟨[.int .i64 x.f3], [.string x.f4, v5, .int .i64 x.f6], rfl, rfl, ⟨[.string x.f4], [v5, .int .i64 x.f6], rfl, rfl, ⟨[v5], [.int .i64 x.f6], rfl, ⟨v5, rfl, g5⟩, rfl⟩⟩⟩⟩⟩⟩
/-- What is made so deep is made deeper, too. -/
theorem S_imp {α : Type} {d d' : Kd α} {e : Nat} {w : World} {base : Nat} {ok : Nat → Prop} {v : Value} {xs : List α} (hs : d'.sz = d.sz) (hi : ∀ ok x cs, d.M w base ok x cs → d'.M w base ok x cs) (h : Kd.S d e w base ok v xs) : Kd.S d' e w base ok v xs := by
  obtain ⟨f, h0, inner, ho, hr⟩ := h
  refine ⟨f, h0, inner, ?_, ?_⟩
  · show w.ownsRow base e d'.sz v _ inner
    rw [hs]; exact ho
  · have h2 := hr
    refine ⟨by show inner.length = _ * d'.sz; rw [hs]; exact h2.1, fun j p hj => ?_⟩
    have h3 := h2.2 j p hj
    show d'.M _ _ _ _ ((inner.drop (j * d'.sz)).take d'.sz)
    rw [hs]
    exact hi _ _ _ h3
theorem ksn_up : ∀ {n : Nat} {w : World} {base : Nat} {ok : Nat → Prop} {x : S26} {cs : List Value}, (ksn n).M w base ok x cs → (ksn (n + 1)).M w base ok x cs
  | 0, _, _, _, _, _, h => h.elim
  | n + 1, w, base, ok, x, cs, h => by
    obtain ⟨v5, rfl, g5⟩ := ksn_openM h
    exact ksn_mkM w base ok x (S_imp (by rw [ksn_sz, ksn_sz]) (fun _ _ _ h => ksn_up h) g5)
theorem ksn_le {m n : Nat} (h : m ≤ n) {w : World} {base : Nat} {ok : Nat → Prop} {x : S26} {cs : List Value} (hM : (ksn m).M w base ok x cs) : (ksn n).M w base ok x cs := by
  obtain ⟨k, rfl⟩ := Nat.exists_eq_add_of_le h
  clear h
  induction k with
  | zero => exact hM
  | succ k ih => exact ksn_up ih
theorem S_le {m n : Nat} (h : m ≤ n) {e : Nat} {w : World} {base : Nat} {ok : Nat → Prop} {v : Value} {xs : List S26} (hS : Kd.S (ksn m) e w base ok v xs) : Kd.S (ksn n) e w base ok v xs := S_imp (by rw [ksn_sz, ksn_sz]) (fun _ _ _ hM => ksn_le h hM) hS
/-- What is made apart is made. -/
theorem ksn_M : ∀ {n : Nat} {w : World} {base : Nat} {ok : Nat → Prop} {x : S26} {cs : List Value}, (ksn n).M w base ok x cs → k26.M w base ok x cs
  | 0, _, _, _, _, _, h => h.elim
  | n + 1, w, base, ok, x, cs, h => by
    obtain ⟨v5, rfl, h5⟩ := ksn_openM h
    refine k26_mkM w base ok x ?_
    obtain ⟨h0, inner, ho, hr⟩ := Kd.S_R h5
    exact ⟨h0, inner, by rw [ksn_sz] at ho; exact ho, by rw [ksn_sz] at hr; exact hr.imp_ (fun _ _ hp => ksn_M hp)⟩
theorem S_k {n : Nat} {w : World} {base : Nat} {ok : Nat → Prop} {v : Value} {xs : List S26} (h : Kd.S (ksn n) 26 w base ok v xs) : k26.R 26 w base ok v xs := by
  obtain ⟨h0, inner, ho, hr⟩ := Kd.S_R h
  exact ⟨h0, inner, by rw [ksn_sz] at ho; exact ho, by rw [ksn_sz] at hr; exact hr.imp_ (fun _ _ hp => ksn_M hp)⟩
end Go.Proofs.Ytbfomjbencbmlaa.Q
