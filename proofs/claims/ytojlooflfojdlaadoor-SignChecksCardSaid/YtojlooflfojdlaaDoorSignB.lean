/- What the Lean functions of layer 10 answer: names, parameters, their numbers, signatures. Conditions: those that each theorem names. -/
import Derived.Test.YtojlooflfojdlaaDoorSignA
import Derived.Test.YtojlooflfojdlaaDoorQx2
import Derived.Test.YtojlooflfojdlaaDoorQx5
import Derived.Test.YtojlooflfojdlaaDoorQx7
import Derived.Test.YtojlooflfojdlaaDoorQx3
import Derived.Test.YtojlooflfojdlaaDoorQx9
namespace Go.Proofs.YtojlooflfojdlaaDoor.Pure
set_option linter.unusedVariables false
open Go.RowKit Go.Proofs.YtojlooflfojdlaaDoor.Q Go.Proofs.YtojlooflfojdlaaDoorW.PrintWords Go.Proofs.YtojlooflfojdlaaDoorW.PrintLast

abbrev Pm := S39
theorem rd_at (l : List Pm) (i : Nat) (h : i < l.length) : rd_T39 l (i : Int) = l[i] := by simp [rd_T39, List.getElem?_eq_getElem h]
theorem Ev.one {α : Type} {g : Nat → Option α} {r : α} (h : ∀ k, g (k + 1) = some r) : Ev g r := ⟨1, fun k hk => by obtain ⟨m, rfl⟩ : ∃ m, k = m + 1 := ⟨k - 1, by omega⟩; exact h m⟩
theorem Ev.const {α : Type} {g : Nat → Option α} {r : α} (h : ∀ k, g k = some r) : Ev g r := ⟨0, fun k _ => h k⟩
theorem Ev.both {α β : Type} {g : Nat → Option α} {f : Nat → Option β} {a : α} {b : β} (h : Ev g a) (h2 : Ev f b) : ∃ K, ∀ k, K ≤ k → g k = some a ∧ f k = some b := by
  obtain ⟨K, h⟩ := h
  obtain ⟨L, h2⟩ := h2
  exact ⟨max K L, fun k hk => ⟨h k (by omega), h2 k (by omega)⟩⟩
theorem str_eq {a b : ByteArray} : a.toList = b.toList ↔ a = b := by rw [toList_bl, bl_inj]

/-! ### names -/
def nmB (s : ByteArray) : Bool := decide (s.toList ≠ []) && decide (s.size ≤ 64) && (bytesOf s).all sign_name.okb
theorem named_step (s : ByteArray) (k : Nat) (i : Int) (h0 : 0 ≤ i) : latheref10_named.l0 (k + 1) s i = if i < (s.size : Int) then (if sign_name.okb (bt s i) = true then latheref10_named.l0 k s (wrap64 (i + 1)) else some false) else some true := by
  rw [latheref10_named.l0]
  by_cases h : i < (s.size : Int)
  · rw [if_pos h, if_pos h0, if_pos h]
    generalize latheref10_named.l0 k s (wrap64 (i + 1)) = X
    generalize bt s i = c
    simp only [sign_name.okb, decide_eq_true_eq]
    repeat' split
    all_goals first | rfl | (exfalso; omega)
  · rw [if_neg h, if_neg h]
theorem named_l0 (s : ByteArray) (hs : s.size ≤ 64) : ∀ (d i : Nat), s.size - i = d → i ≤ s.size → Ev (fun k => latheref10_named.l0 k s (i : Int)) (((bl s).drop i).all sign_name.okb) := by
  intro d
  induction d with
  | zero =>
    intro i h hi
    refine Ev.one fun k => ?_
    rw [named_step s k _ (by omega), if_neg (by omega), List.drop_of_length_le (by rw [bl_length]; omega)]
    rfl
  | succ d ih =>
    intro i h hi
    have hd := bl_drop s i (by omega)
    by_cases hc : sign_name.okb (bt s (i : Int)) = true
    · refine Ev.step (fun k => ?_) (Ev.congr (fun k => rfl) (show Ev (fun k => latheref10_named.l0 k s ((i + 1 : Nat) : Int)) _ from by rw [hd, List.all_cons, hc, Bool.true_and]; exact ih (i + 1) (by omega) (by omega)))
      rw [named_step s k _ (by omega), if_pos (by omega), if_pos hc, wr64 _ (by omega) (by omega)]
      rfl
    · refine Ev.one fun k => ?_
      rw [named_step s k _ (by omega), if_pos (by omega), if_neg hc, hd, List.all_cons, Bool.eq_false_iff.2 hc]
      rfl
theorem named_ev (s : ByteArray) : Ev (fun k => latheref10_named.f k s) (nmB s) := by
  unfold latheref10_named.f nmB
  by_cases h1 : s.toList = ([] : List UInt8)
  · refine Ev.one fun k => ?_
    rw [if_pos h1, latheref10_named.j0, if_pos rfl]
    simp [h1]
  · by_cases h2 : (s.size : Int) > 64
    · refine Ev.one fun k => ?_
      rw [if_neg h1, latheref10_named.j0, decide_eq_true h2, if_pos rfl, show decide (s.size ≤ 64) = false from decide_eq_false (by omega)]
      simp
    · have h := named_l0 s (by omega) _ 0 rfl (by omega)
      refine Ev.step (fun k => ?_) (Ev.congr (fun k => rfl) (show Ev (fun k => latheref10_named.l0 k s 0) _ from by rw [show decide (s.toList ≠ []) = true from decide_eq_true h1, show decide (s.size ≤ 64) = true from decide_eq_true (by omega), Bool.true_and, Bool.true_and]; exact h))
      rw [if_neg h1, latheref10_named.j0, decide_eq_false h2, if_neg (by decide)]
theorem name_eq (s : ByteArray) : sign_name.f s = some (nmB s) := rfl

/-! ### parameters -/
def mayB (p : Pm) : Bool := nmB p.f0 && decide (p.f1 = 1 ∨ p.f1 = 2) && decide (1 ≤ p.f2 ∧ p.f2 ≤ 4096)
theorem may_form (a : ByteArray) (b c : Int) (t : Bool) (ht : t = nmB a) : (if t = true then (if b = 1 then (if c ≥ 1 then (some (decide (c ≤ 4096))) else (some false)) else (if b = 2 then (if c ≥ 1 then (some (decide (c ≤ 4096))) else (some false)) else (some false))) else (some false)) = some (mayB ⟨a, b, c⟩) := by
  unfold mayB
  simp only
  rw [← ht]
  cases t with
  | false => rfl
  | true =>
    rw [if_pos rfl, Bool.true_and]
    repeat' split
    all_goals (congr 1; rw [eq_comm, Bool.eq_iff_iff]; simp only [Bool.and_eq_true, decide_eq_true_eq, Bool.false_eq_true]; constructor <;> intro h_ <;> first | omega | exact h_.elim)
theorem may_eq (a : ByteArray) (b c : Int) : sign_may.f a b c = some (mayB ⟨a, b, c⟩) := by
  unfold sign_may.f
  rw [name_eq, Option.bind_some]
  exact may_form a b c _ rfl
theorem may_ev (a : ByteArray) (b c : Int) : Ev (fun k => latheref10_May.f k a b c) (mayB ⟨a, b, c⟩) :=
  Ev.bind (named_ev a) (Ev.const fun _ => may_form a b c _ rfl)
theorem may_bd {p : Pm} (h : mayB p = true) : nmB p.f0 = true ∧ (p.f1 = 1 ∨ p.f1 = 2) ∧ 1 ≤ p.f2 ∧ p.f2 ≤ 4096 := by
  unfold mayB at h
  simp only [Bool.and_eq_true, decide_eq_true_eq] at h
  exact ⟨h.1.1, h.1.2, h.2⟩
def numB (p : Pm) : Int := if mayB p = true then (if p.f1 = 2 then 2 * p.f2 else p.f2) else 0
theorem num_form (a : ByteArray) (b c : Int) : (if mayB ⟨a, b, c⟩ = true then (if b = 2 then (some (wrap64 (2 * c))) else (some c)) else (some 0)) = some (numB ⟨a, b, c⟩) := by
  unfold numB
  by_cases h : mayB ⟨a, b, c⟩ = true
  · have hb := may_bd h
    simp only at hb
    rw [if_pos h, if_pos h]
    simp only
    split
    · rw [wr64 _ (by omega) (by omega)]
    · rfl
  · rw [if_neg h, if_neg h]
theorem num_eq (a : ByteArray) (b c : Int) : sign_Numbers.f a b c = some (numB ⟨a, b, c⟩) := by
  unfold sign_Numbers.f
  rw [may_eq, Option.bind_some]
  exact num_form a b c
theorem num_ev (a : ByteArray) (b c : Int) : Ev (fun k => latheref10_Numbers.f k a b c) (numB ⟨a, b, c⟩) :=
  Ev.bind (may_ev a b c) (Ev.const fun _ => num_form a b c)
def totF (l : List Pm) (a : Int) : Int := l.foldl (fun a p => wrap64 (a + numB p)) a
theorem drop_at (l : List Pm) (i : Nat) (h : i < l.length) : l.drop i = rd_T39 l (i : Int) :: l.drop (i + 1) := by rw [List.drop_eq_getElem_cons h, rd_at l i h]
theorem total_l0 (l : List Pm) (hl : l.length ≤ 4398046511104) : ∀ (d i : Nat) (a : Int), l.length - i = d → i ≤ l.length → Ev (fun k => sign_Total.l0 k a l (l.length : Int) (i : Int)) (totF (l.drop i) a) := by
  intro d
  induction d with
  | zero =>
    intro i a h hi
    refine Ev.one fun k => ?_
    rw [sign_Total.l0, if_neg (by omega), List.drop_of_length_le (by omega)]
    rfl
  | succ d ih =>
    intro i a h hi
    rw [drop_at l i (by omega)]
    refine Ev.step (fun k => ?_) (ih (i + 1) (wrap64 (a + numB (rd_T39 l (i : Int)))) (by omega) (by omega))
    rw [sign_Total.l0, if_pos (by omega), if_pos (by omega), if_pos (by omega), num_eq, Option.bind_some, wr64 ((i : Int) + 1) (by omega) (by omega)]
    rfl
theorem total_ev (l : List Pm) (hl : l.length ≤ 4398046511104) : Ev (fun k => sign_Total.f k l) (totF l 0) := by
  have h := total_l0 l hl _ 0 0 rfl (by omega)
  rw [List.drop_zero] at h
  exact h
theorem rtotal_l0 (l : List Pm) (hl : l.length ≤ 4398046511104) : ∀ (d i : Nat) (a : Int), l.length - i = d → i ≤ l.length → Ev (fun k => latheref10_Total.l0 k l a (i : Int)) (totF (l.drop i) a) := by
  intro d
  induction d with
  | zero =>
    intro i a h hi
    refine Ev.one fun k => ?_
    rw [latheref10_Total.l0, if_neg (by omega), List.drop_of_length_le (by omega)]
    rfl
  | succ d ih =>
    intro i a h hi
    rw [drop_at l i (by omega)]
    refine Ev.step (f := fun k => (latheref10_Numbers.f k (rd_T39 l (i : Int)).f0 (rd_T39 l (i : Int)).f1 (rd_T39 l (i : Int)).f2).bind fun t => latheref10_Total.l0 k l (wrap64 (a + t)) ((i + 1 : Nat) : Int)) (fun k => ?_) (Ev.bind (num_ev _ _ _) (ih (i + 1) _ (by omega) (by omega)))
    rw [latheref10_Total.l0, if_pos (by omega), if_pos (by omega), wr64 ((i : Int) + 1) (by omega) (by omega)]
    rfl
theorem rtotal_ev (l : List Pm) (hl : l.length ≤ 4398046511104) : Ev (fun k => latheref10_Total.f k l) (totF l 0) := by
  have h := rtotal_l0 l hl _ 0 0 rfl (by omega)
  rw [List.drop_zero] at h
  exact h

/-! ### the place of a parameter -/
def fnd : List Pm → ByteArray → Nat → Int × Bool
  | [], _, _ => (0, false)
  | p :: ps, x, i => if p.f0 = x then ((i : Int), true) else fnd ps x (i + 1)
theorem find_l0 (l : List Pm) (x : ByteArray) (hl : l.length ≤ 4398046511104) : ∀ (d i : Nat), l.length - i = d → i ≤ l.length → Ev (fun k => sign_Find.l0 k x l (l.length : Int) (i : Int)) (fnd (l.drop i) x i) := by
  intro d
  induction d with
  | zero =>
    intro i h hi
    refine Ev.one fun k => ?_
    rw [sign_Find.l0, if_neg (by omega), List.drop_of_length_le (by omega)]
    rfl
  | succ d ih =>
    intro i h hi
    rw [drop_at l i (by omega)]
    by_cases e : (rd_T39 l (i : Int)).f0 = x
    · refine Ev.one fun k => ?_
      rw [sign_Find.l0, if_pos (by omega), if_pos (by omega), if_pos (by omega), if_pos (str_eq.2 e), fnd, if_pos e]
    · rw [fnd, if_neg e]
      refine Ev.step (fun k => ?_) (ih (i + 1) (by omega) (by omega))
      rw [sign_Find.l0, if_pos (by omega), if_pos (by omega), if_pos (by omega), if_neg (fun h => e (str_eq.1 h)), wr64 _ (by omega) (by omega)]
      rfl
theorem find_ev (l : List Pm) (x : ByteArray) (hl : l.length ≤ 4398046511104) : Ev (fun k => sign_Find.f k l x) (fnd l x 0) := find_l0 l x hl _ 0 rfl (by omega)
theorem rfind_l0 (l : List Pm) (x : ByteArray) (hl : l.length ≤ 4398046511104) : ∀ (d i : Nat), l.length - i = d → i ≤ l.length → Ev (fun k => latheref10_Find.l0 k l x (i : Int)) (fnd (l.drop i) x i) := by
  intro d
  induction d with
  | zero =>
    intro i h hi
    refine Ev.one fun k => ?_
    rw [latheref10_Find.l0, if_neg (by omega), List.drop_of_length_le (by omega)]
    rfl
  | succ d ih =>
    intro i h hi
    rw [drop_at l i (by omega)]
    by_cases e : (rd_T39 l (i : Int)).f0 = x
    · refine Ev.one fun k => ?_
      rw [latheref10_Find.l0, if_pos (by omega), if_pos (by omega), if_pos (str_eq.2 e), fnd, if_pos e]
    · rw [fnd, if_neg e]
      refine Ev.step (fun k => ?_) (ih (i + 1) (by omega) (by omega))
      rw [latheref10_Find.l0, if_pos (by omega), if_pos (by omega), if_neg (fun h => e (str_eq.1 h)), wr64 _ (by omega) (by omega)]
      rfl
theorem rfind_ev (l : List Pm) (x : ByteArray) (hl : l.length ≤ 4398046511104) : Ev (fun k => latheref10_Find.f k l x) (fnd l x 0) := rfind_l0 l x hl _ 0 rfl (by omega)

/-! ### whether a signature may be -/
def names (l : List Pm) : List (List UInt8) := l.map fun p => dl p.f0
def chk (l : List Pm) : Int := if l.length > 64 then 2 else if l.all mayB = true then (if (names l).Nodup then (if totF l 0 > 65536 then 102 else 0) else 101) else 100
def ins (s : List (List UInt8)) (x : List UInt8) : List (List UInt8) := if x ∈ s then s else x :: s
theorem ins_le : ∀ (l s : List (List UInt8)), (l.foldl ins s).length ≤ s.length + l.length
  | [], s => Nat.le_refl _
  | x :: l, s => by
    have := ins_le l (ins s x)
    have h2 : (ins s x).length ≤ s.length + 1 := by unfold ins; split <;> simp
    simp only [List.foldl_cons, List.length_cons]; omega
theorem ins_all : ∀ (l s : List (List UInt8)), (l.foldl ins s).length = s.length + l.length ↔ l.Nodup ∧ ∀ x ∈ l, x ∉ s
  | [], s => by simp
  | x :: l, s => by
    simp only [List.foldl_cons, List.length_cons, List.nodup_cons, List.mem_cons]
    by_cases h : x ∈ s
    · have h1 : ins s x = s := if_pos h
      rw [h1]
      have := ins_le l s
      constructor
      · intro e; omega
      · rintro ⟨_, e⟩; exact absurd h (e x (.inl rfl))
    · have h1 : ins s x = x :: s := if_neg h
      rw [h1]
      have ih := ins_all l (x :: s)
      constructor
      · intro e
        obtain ⟨a, b⟩ := ih.1 (by simp only [List.length_cons]; omega)
        refine ⟨⟨fun hx => b x hx List.mem_cons_self, a⟩, ?_⟩
        rintro y (rfl | hy)
        · exact h
        · exact fun hs => b y hy (List.mem_cons_of_mem _ hs)
      · rintro ⟨⟨a, b⟩, c⟩
        have := ih.2 ⟨b, fun y hy hm => by
          rcases List.mem_cons.1 hm with rfl | hm
          · exact a hy
          · exact c y (.inr hy) hm⟩
        simp only [List.length_cons] at this; omega
theorem check_l0 (l : List Pm) (hl : l.length ≤ 64) : ∀ (d i : Nat) (s : List (List UInt8)), l.length - i = d → i ≤ l.length → Ev (fun k => sign_Check.l0 k l (i : Int) s) (if (l.drop i).all mayB = true then (if ((names (l.drop i)).foldl ins s).length < l.length then 101 else if totF l 0 > 65536 then 102 else 0) else 100) := by
  intro d
  induction d with
  | zero =>
    intro i s h hi
    rw [List.drop_of_length_le (by omega)]
    simp only [List.all_nil, if_true, names, List.map_nil, List.foldl_nil]
    by_cases h1 : s.length < l.length
    · refine Ev.one fun k => ?_
      rw [sign_Check.l0, if_neg (by omega), if_pos (by omega), if_pos h1]
    · rw [if_neg h1]
      refine Ev.step (f := fun k => (sign_Total.f k l).bind fun t => if t > 65536 then some 102 else some 0) (fun k => ?_) (Ev.bind (total_ev l (by omega)) (Ev.const fun _ => by split <;> rfl))
      rw [sign_Check.l0, if_neg (by omega), if_neg (by omega)]
  | succ d ih =>
    intro i s h hi
    rw [drop_at l i (by omega)]
    simp only [names, List.map_cons, List.foldl_cons, List.all_cons]
    by_cases hm : mayB (rd_T39 l (i : Int)) = true
    · rw [hm, Bool.true_and]
      refine Ev.step (fun k => ?_) (ih (i + 1) (ins s (dl (rd_T39 l (i : Int)).f0)) (by omega) (by omega))
      rw [sign_Check.l0, if_pos (by omega), may_eq, Option.bind_some, if_pos hm]
      rfl
    · refine Ev.one fun k => ?_
      rw [sign_Check.l0, if_pos (by omega), may_eq, Option.bind_some, if_neg hm, Bool.eq_false_iff.2 hm, Bool.false_and, if_neg (by decide)]
theorem check_ev (l : List Pm) : Ev (fun k => sign_Check.f k l) (chk l) := by
  unfold chk sign_Check.f
  by_cases h : l.length > 64
  · refine Ev.const fun k => ?_
    rw [if_pos (by omega), if_pos h]
  · rw [if_neg h]
    refine Ev.congr (fun k => if_neg (by omega)) ?_
    have h1 := check_l0 l (by omega) _ 0 [] rfl (by omega)
    rw [List.drop_zero] at h1
    have h2 := ins_all (names l) []
    have h3 := ins_le (names l) []
    have h4 : (names l).length = l.length := by simp [names]
    by_cases hn : (names l).Nodup
    · rw [if_pos hn]
      have := h2.2 ⟨hn, by simp⟩
      have e1 : ¬ (List.foldl ins [] (names l)).length < l.length := by rw [this, List.length_nil]; omega
      rw [if_neg e1] at h1
      exact h1
    · rw [if_neg hn]
      have : ¬ (List.foldl ins [] (names l)).length = [].length + (names l).length := fun e => hn (h2.1 e).1
      have e1 : (List.foldl ins [] (names l)).length < l.length := by rw [List.length_nil] at this h3; omega
      rw [if_pos e1] at h1
      exact h1
theorem fnd_spec : ∀ (l : List Pm) (x : ByteArray) (s : Nat), dl x ∈ names l → ∃ j, j < l.length ∧ fnd l x s = (((s + j : Nat) : Int), true) ∧ (names l)[j]? = some (dl x) ∧ dl x ∉ (names l).take j
  | [], x, s, h => by simp [names] at h
  | p :: ps, x, s, h => by
    by_cases e : p.f0 = x
    · exact ⟨0, by simp, by rw [fnd, if_pos e]; rfl, by simp [names, e], by simp⟩
    · have hp : dl p.f0 ≠ dl x := fun h => e (dl_inj h)
      have h' : dl x ∈ names ps := by
        simp only [names, List.map_cons, List.mem_cons] at h
        exact h.resolve_left (fun h => hp h.symm)
      obtain ⟨j, h1, h2, h3, h4⟩ := fnd_spec ps x (s + 1) h'
      refine ⟨j + 1, by simp; omega, by rw [fnd, if_neg e, h2]; congr 2; omega, by simpa [names] using h3, ?_⟩
      simp only [names, List.map_cons, List.take_succ_cons, List.mem_cons, not_or]
      exact ⟨fun h => hp h.symm, h4⟩
theorem fnd_at (l : List Pm) (i : Nat) (h : i < l.length) : (fnd l (rd_T39 l (i : Int)).f0 0).1 = (i : Int) ↔ dl (rd_T39 l (i : Int)).f0 ∉ (names l).take i := by
  have hi : (names l)[i]? = some (dl (rd_T39 l (i : Int)).f0) := by rw [rd_at l i h]; simp [names, h]
  obtain ⟨j, h1, h2, h3, h4⟩ := fnd_spec l (rd_T39 l (i : Int)).f0 0 (List.mem_of_getElem? hi)
  rw [h2]
  constructor
  · intro e
    have : j = i := by simp only at e; omega
    subst this
    exact h4
  · intro hn
    simp only
    rcases Nat.lt_trichotomy j i with hlt | e | hlt
    · refine absurd (List.mem_of_getElem? (i := j) ?_) hn
      rw [List.getElem?_take, if_pos hlt]; exact h3
    · omega
    · refine absurd (List.mem_of_getElem? (i := i) ?_) h4
      rw [List.getElem?_take, if_pos hlt]; exact hi
theorem nodup_snoc (l : List (List UInt8)) (x : List UInt8) : (l ++ [x]).Nodup ↔ l.Nodup ∧ x ∉ l := by
  rw [List.nodup_append]
  constructor
  · rintro ⟨h1, _, h3⟩; exact ⟨h1, fun hx => h3 x hx x (by simp) rfl⟩
  · rintro ⟨h1, h2⟩; exact ⟨h1, by simp, fun a ha b hb e => by simp at hb; subst hb; subst e; exact h2 ha⟩
theorem rcheck_l1 (l : List Pm) (hl : l.length ≤ 64) : ∀ (d i : Nat), l.length - i = d → i ≤ l.length → ((names l).take i).Nodup → Ev (fun k => latheref10_Check.l1 k l (i : Int)) (if (names l).Nodup then (if totF l 0 > 65536 then 102 else 0) else 101) := by
  intro d
  induction d with
  | zero =>
    intro i h hi hn
    rw [List.take_of_length_le (by simp [names]; omega)] at hn
    rw [if_pos hn]
    refine Ev.step (f := fun k => (latheref10_Total.f k l).bind fun t => if t > 65536 then some 102 else some 0) (fun k => ?_) (Ev.bind (rtotal_ev l (by omega)) (Ev.const fun _ => by split <;> rfl))
    rw [latheref10_Check.l1, if_neg (by omega)]
  | succ d ih =>
    intro i h hi hn
    have hlt : i < l.length := by omega
    have ha := fnd_at l i hlt
    have hi' : (names l)[i]? = some (dl (rd_T39 l (i : Int)).f0) := by rw [rd_at l i hlt]; simp [names, hlt]
    have htk : (names l).take (i + 1) = (names l).take i ++ [dl (rd_T39 l (i : Int)).f0] := by
      rw [List.take_add_one, hi']; rfl
    by_cases e : (fnd l (rd_T39 l (i : Int)).f0 0).1 = (i : Int)
    · refine Ev.step (f := fun k => (latheref10_Find.f k l (rd_T39 l (i : Int)).f0).bind fun b => if b.1 = (i : Int) then latheref10_Check.l1 k l ((i + 1 : Nat) : Int) else some 101) (fun k => ?_) (Ev.bind (rfind_ev l _ (by omega)) (Ev.congr (fun k => if_pos e) (ih (i + 1) (by omega) (by omega) (by rw [htk, nodup_snoc]; exact ⟨hn, ha.1 e⟩))))
      rw [latheref10_Check.l1, if_pos (by omega), if_pos (by omega), wr64 _ (by omega) (by omega)]
      rfl
    · have hnn : ¬ (names l).Nodup := fun hN => by
        have h1 : ((names l).take (i + 1)).Nodup := hN.sublist (List.take_sublist _ _)
        rw [htk, nodup_snoc] at h1
        exact e (ha.2 h1.2)
      rw [if_neg hnn]
      refine Ev.step (f := fun k => (latheref10_Find.f k l (rd_T39 l (i : Int)).f0).bind fun b => if b.1 = (i : Int) then latheref10_Check.l1 k l ((i + 1 : Nat) : Int) else some 101) (fun k => ?_) (Ev.bind (rfind_ev l _ (by omega)) (Ev.const fun k => if_neg e))
      rw [latheref10_Check.l1, if_pos (by omega), if_pos (by omega), wr64 _ (by omega) (by omega)]
      rfl
theorem rcheck_l0 (l : List Pm) (hl : l.length ≤ 64) : ∀ (d i : Nat), l.length - i = d → i ≤ l.length → Ev (fun k => latheref10_Check.l0 k l (i : Int)) (if (l.drop i).all mayB = true then (if (names l).Nodup then (if totF l 0 > 65536 then 102 else 0) else 101) else 100) := by
  intro d
  induction d with
  | zero =>
    intro i h hi
    rw [List.drop_of_length_le (by omega)]
    simp only [List.all_nil, if_true]
    refine Ev.step (fun k => ?_) (rcheck_l1 l hl _ 0 rfl (by omega) (by simp))
    rw [latheref10_Check.l0, if_neg (by omega)]
    rfl
  | succ d ih =>
    intro i h hi
    rw [drop_at l i (by omega), List.all_cons]
    by_cases hm : mayB (rd_T39 l (i : Int)) = true
    · rw [hm, Bool.true_and]
      refine Ev.step (f := fun k => (latheref10_May.f k (rd_T39 l (i : Int)).f0 (rd_T39 l (i : Int)).f1 (rd_T39 l (i : Int)).f2).bind fun t => if t = true then latheref10_Check.l0 k l ((i + 1 : Nat) : Int) else some 100) (fun k => ?_) (Ev.bind (may_ev _ _ _) (Ev.congr (fun k => if_pos hm) (ih (i + 1) (by omega) (by omega))))
      rw [latheref10_Check.l0, if_pos (by omega), if_pos (by omega), wr64 _ (by omega) (by omega)]
      rfl
    · rw [Bool.eq_false_iff.2 hm, Bool.false_and, if_neg (by decide)]
      refine Ev.step (f := fun k => (latheref10_May.f k (rd_T39 l (i : Int)).f0 (rd_T39 l (i : Int)).f1 (rd_T39 l (i : Int)).f2).bind fun t => if t = true then latheref10_Check.l0 k l ((i + 1 : Nat) : Int) else some 100) (fun k => ?_) (Ev.bind (may_ev _ _ _) (Ev.const fun k => if_neg hm))
      rw [latheref10_Check.l0, if_pos (by omega), if_pos (by omega), wr64 _ (by omega) (by omega)]
      rfl
theorem rcheck_ev (l : List Pm) : Ev (fun k => latheref10_Check.f k l) (chk l) := by
  unfold chk latheref10_Check.f
  by_cases h : l.length > 64
  · refine Ev.const fun k => ?_
    rw [if_pos (by omega), if_pos h]
  · rw [if_neg h]
    refine Ev.congr (fun k => if_neg (by omega)) ?_
    have h1 := rcheck_l0 l (by omega) _ 0 rfl (by omega)
    rw [List.drop_zero] at h1
    exact h1

/-! ### lists alike -/
theorem same_l0 (l : List Pm) (hl : l.length ≤ 4398046511104) : ∀ (d i : Nat), l.length - i = d → i ≤ l.length → Ev (fun k => lathelaw10_same.l0 k l l (i : Int)) true := by
  intro d
  induction d with
  | zero =>
    intro i h hi
    refine Ev.one fun k => ?_
    rw [lathelaw10_same.l0, if_neg (by omega)]
  | succ d ih =>
    intro i h hi
    refine Ev.step (fun k => ?_) (ih (i + 1) (by omega) (by omega))
    rw [lathelaw10_same.l0, if_pos (by omega), if_pos (by omega), if_pos (by omega), if_neg (by simp), wr64 _ (by omega) (by omega)]
    rfl
theorem same_ev (l : List Pm) (hl : l.length ≤ 4398046511104) : Ev (fun k => lathelaw10_same.f k l l) true := by
  unfold lathelaw10_same.f
  exact Ev.congr (fun k => if_pos rfl) (same_l0 l hl _ 0 rfl (by omega))
end Go.Proofs.YtojlooflfojdlaaDoor.Pure
