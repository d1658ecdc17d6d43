/- Plain lemmas on texts as lists of bytes: a text cut at a byte; decimal numerals. Conditions: those that each theorem names. -/
import Derived.Test.YtojlooflfojdlaaDoorPureS
import Derived.Lib.SplitLaws
import Derived.Lib.AtoiAllCases
import Derived.Lib.ItoaNum
namespace Go.Proofs.YtojlooflfojdlaaDoor.Pure
set_option linter.unusedVariables false
open Go.RowKit Go.Proofs.YtojlooflfojdlaaDoorW.PrintWords Go.Proofs.YtojlooflfojdlaaDoorW.PrintLast

abbrev dl (s : ByteArray) : List UInt8 := s.data.toList
def mk (l : List UInt8) : ByteArray := ⟨l.toArray⟩
theorem dl_mk (l : List UInt8) : dl (mk l) = l := rfl
theorem mk_dl (s : ByteArray) : mk (dl s) = s := by cases s; simp [mk]
theorem dl_inj {a b : ByteArray} (h : dl a = dl b) : a = b := by rw [← mk_dl a, ← mk_dl b, h]
theorem dl_length (s : ByteArray) : (dl s).length = s.size := by rw [Array.length_toList]; rfl
theorem map_dl_inj : ∀ {a b : List ByteArray}, a.map dl = b.map dl → a = b
  | [], [], _ => rfl
  | [], _ :: _, h => by simp at h
  | _ :: _, [], h => by simp at h
  | x :: xs, y :: ys, h => by
    simp only [List.map_cons, List.cons.injEq] at h
    rw [dl_inj h.1, map_dl_inj h.2]
theorem dl_extract (s : ByteArray) (i j : Nat) : dl (s.extract i j) = ((dl s).take j).drop i := by
  rw [dl, ByteArray.data_extract, Array.toList_extract, List.extract_eq_take_drop, List.drop_take]
theorem dl_append (a b : ByteArray) : dl (a ++ b) = dl a ++ dl b := by rw [dl, ByteArray.data_append, Array.toList_append]
/-- A list cut at each c. -/
def spl (c : UInt8) : List UInt8 → List (List UInt8)
  | [] => [[]]
  | b :: l => if b = c then [] :: spl c l else match spl c l with
    | [] => [[b]]
    | p :: ps => (b :: p) :: ps
theorem spl_ne (c : UInt8) : ∀ l, spl c l ≠ []
  | [] => by simp [spl]
  | b :: l => by
    unfold spl
    split
    · simp
    · cases spl c l <;> simp
theorem spl_nil (c : UInt8) : spl c [] = [[]] := rfl
theorem spl_hit (c : UInt8) (l : List UInt8) : spl c (c :: l) = [] :: spl c l := by simp [spl]
theorem spl_miss {c b : UInt8} (h : b ≠ c) (l : List UInt8) : ∃ p ps, spl c l = p :: ps ∧ spl c (b :: l) = (b :: p) :: ps := by
  cases e : spl c l with
  | nil => exact absurd e (spl_ne c l)
  | cons p ps => exact ⟨p, ps, rfl, by simp [spl, h, e]⟩
theorem spl_none {c : UInt8} : ∀ {l : List UInt8}, c ∉ l → spl c l = [l]
  | [], _ => rfl
  | b :: l, h => by
    obtain ⟨p, ps, h1, h2⟩ := spl_miss (c := c) (b := b) (fun e => h (by simp [e])) l
    rw [spl_none (fun e => h (List.mem_cons_of_mem _ e))] at h1
    simp only [List.cons.injEq] at h1
    rw [h2, ← h1.1, ← h1.2]
theorem spl_app {c : UInt8} : ∀ {l : List UInt8} (r : List UInt8), c ∉ l → spl c (l ++ c :: r) = l :: spl c r
  | [], r, _ => by rw [List.nil_append, spl_hit]
  | b :: l, r, h => by
    obtain ⟨p, ps, h1, h2⟩ := spl_miss (c := c) (b := b) (fun e => h (by simp [e])) (l ++ c :: r)
    rw [spl_app r (fun e => h (List.mem_cons_of_mem _ e))] at h1
    simp only [List.cons.injEq] at h1
    rw [List.cons_append, h2, ← h1.1, ← h1.2]
theorem splitK_spl (c : UInt8) : ∀ l : List UInt8, Lib.splitK [c] 0 (Lib.count l [c]) l = spl c l
  | [] => by rw [Lib.count_one]; rfl
  | b :: l => by
    have ih := splitK_spl c l
    by_cases h : b = c
    · subst h
      rw [Lib.count_cons_eq, Nat.add_comm, spl_hit, ← ih]
      have hix : Lib.index (b :: l) [b] = 0 := by rw [Lib.index]; simp [List.isPrefixOf]
      simp [Lib.splitK, hix]
    · have hp : ([c] : List UInt8).isPrefixOf (b :: l) = false := by simp [List.isPrefixOf, Ne.symm h]
      have hix : Lib.index (b :: l) [c] = if Lib.index l [c] == -1 then -1 else Lib.index l [c] + 1 := by rw [Lib.index, hp]; simp
      obtain ⟨p, ps, h1, h2⟩ := spl_miss h l
      rw [Lib.count_cons_ne b c l h, h2]
      by_cases hm : Lib.index l [c] = -1
      · rw [Lib.count_miss hm] at ih ⊢
        simp only [Lib.splitK] at ih ⊢
        rw [h1] at ih
        simp only [List.cons.injEq] at ih
        rw [ih.1, ← ih.2]
      · have hge := Lib.index_ge l [c]
        obtain ⟨j, hj⟩ : ∃ j : Nat, Lib.index l [c] = j := ⟨(Lib.index l [c]).toNat, by omega⟩
        have hc := Lib.count_hit (s := l) (sub := [c]) (by simp) hj
        obtain ⟨k, hk⟩ : ∃ k, Lib.count l [c] = k + 1 := ⟨Lib.count (l.drop (j + 1)) [c], by rw [hc]; simp; omega⟩
        rw [hk] at ih ⊢
        have hix' : Lib.index (b :: l) [c] = ((j + 1 : Nat) : Int) := by rw [hix, if_neg (by simpa using hm), hj]; omega
        simp only [Lib.splitK, hj, hix', List.length_singleton] at ih ⊢
        rw [if_neg (show ¬ (((j : Int) == -1) = true) from fun e_ => by have := beq_iff_eq.1 e_; omega)] at ih
        rw [if_neg (show ¬ ((((j + 1 : Nat) : Int) == -1) = true) from fun e_ => by have := beq_iff_eq.1 e_; omega)]
        rw [h1] at ih
        simp only [List.cons.injEq] at ih
        rw [← ih.1, ← ih.2]
        first | done | simp
theorem splitB_spl (s : ByteArray) (c : UInt8) : (Lib.splitB ⟨#[c]⟩ 0 (Lib.countB s ⟨#[c]⟩) s).map dl = spl c (dl s) := by
  have := Lib.splitB_data ⟨#[c]⟩ 0 (Lib.countB s ⟨#[c]⟩) s
  rw [show (Lib.splitB ⟨#[c]⟩ 0 (Lib.countB s ⟨#[c]⟩) s).map dl = (Lib.splitB ⟨#[c]⟩ 0 (Lib.countB s ⟨#[c]⟩) s).map (·.data.toList) from rfl, this]
  exact splitK_spl c (dl s)
theorem spl_size (c : UInt8) : ∀ l : List UInt8, (spl c l).length ≤ l.length + 1
  | [] => Nat.le_refl _
  | b :: l => by
    have ih := spl_size c l
    by_cases h : b = c
    · subst h; rw [spl_hit]; simp; omega
    · obtain ⟨p, ps, h1, h2⟩ := spl_miss h l
      rw [h2]; rw [h1] at ih; simp at ih ⊢; omega
/-- What stands ahead of a cut list goes to its first piece. -/
def glue (p : List UInt8) : List (List UInt8) → List (List UInt8)
  | [] => [p]
  | q :: qs => (p ++ q) :: qs
theorem glue_miss {c b : UInt8} (h : b ≠ c) (p l : List UInt8) : glue p (spl c (b :: l)) = glue (p ++ [b]) (spl c l) := by
  obtain ⟨q, qs, h1, h2⟩ := spl_miss h l
  rw [h1, h2]
  simp [glue]
theorem glue_hit (c : UInt8) (p l : List UInt8) : glue p (spl c (c :: l)) = p :: spl c l := by rw [spl_hit]; simp [glue]
theorem glue_nil (c : UInt8) (l : List UInt8) : glue [] (spl c l) = spl c l := by
  cases e : spl c l with
  | nil => exact absurd e (spl_ne c l)
  | cons q qs => rfl

/-! ### numerals -/
def dig (c : UInt8) : Bool := decide (48 ≤ c.toNat ∧ c.toNat ≤ 57)
def val (l : List UInt8) : Nat := l.foldl (fun a c => a * 10 + (c.toNat - 48)) 0
theorem val_snoc (l : List UInt8) (c : UInt8) : val (l ++ [c]) = val l * 10 + (c.toNat - 48) := by simp [val, List.foldl_append]
theorem dig_of (u : Nat) (h : u < 10) : dig (UInt8.ofNat (48 + u)) = true ∧ (UInt8.ofNat (48 + u)).toNat = 48 + u := by
  have : (UInt8.ofNat (48 + u)).toNat = 48 + u := by simp; omega
  exact ⟨decide_eq_true (by rw [this]; omega), this⟩
theorem ofNat_dig (c : UInt8) (h : dig c = true) : UInt8.ofNat (48 + (c.toNat - 48)) = c := by
  have h := of_decide_eq_true h
  apply UInt8.toNat_inj.1
  simp; omega
theorem decDigits_big {u : Nat} (h : ¬ u < 10) : Lib.decDigits u = Lib.decDigits (u / 10) ++ [UInt8.ofNat (48 + u % 10)] := by rw [Lib.decDigits, dif_neg h]
/-- A numeral's value, digits, first digit. -/
theorem dec_props (u : Nat) : val (Lib.decDigits u) = u ∧ (Lib.decDigits u).all dig = true ∧ Lib.decDigits u ≠ [] ∧ (1 ≤ u → (Lib.decDigits u).head? ≠ some 48) := by
  induction u using Nat.strongRecOn with
  | _ u ih =>
    by_cases h : u < 10
    · rw [Lib.decDigits_one h]
      obtain ⟨h1, h2⟩ := dig_of u h
      refine ⟨by simp only [val, List.foldl_cons, List.foldl_nil]; rw [h2]; omega, by rw [List.all_cons, h1]; rfl, by simp, fun hu e => ?_⟩
      have := congrArg UInt8.toNat (Option.some.inj e)
      rw [h2] at this
      simp at this; omega
    · rw [decDigits_big h]
      obtain ⟨i1, i2, i3, i4⟩ := ih (u / 10) (by omega)
      obtain ⟨h1, h2⟩ := dig_of (u % 10) (by omega)
      refine ⟨by rw [val_snoc, i1, h2]; omega, by rw [List.all_append, i2, List.all_cons, h1]; rfl, by simp, fun _ => ?_⟩
      have := i4 (by omega)
      cases e : Lib.decDigits (u / 10) with
      | nil => exact absurd e i3
      | cons x xs => rw [e] at this; simpa using this
theorem dec_len {u : Nat} (h : u ≤ 4096) : (Lib.decDigits u).length ≤ 4 := by
  by_cases h1 : u < 10
  · rw [Lib.decDigits_one h1]; simp
  rw [decDigits_big h1, List.length_append]
  by_cases h2 : u / 10 < 10
  · rw [Lib.decDigits_one h2]; simp
  rw [decDigits_big h2, List.length_append]
  by_cases h3 : u / 10 / 10 < 10
  · rw [Lib.decDigits_one h3]; simp
  rw [decDigits_big h3, List.length_append, Lib.decDigits_one (by omega)]; simp
/-- A text of digits without a nought ahead is the numeral of its value. -/
theorem dec_val : ∀ (n : Nat) (l : List UInt8), l.length = n → l ≠ [] → l.all dig = true → l.head? ≠ some 48 → Lib.decDigits (val l) = l ∧ 1 ≤ val l := by
  intro n
  induction n with
  | zero => intro l h1 h2; exact absurd (List.length_eq_zero_iff.1 h1) h2
  | succ n ih =>
    intro l h1 h2 h3 h4
    obtain ⟨l', c, rfl⟩ : ∃ l' c, l = l' ++ [c] := ⟨l.dropLast, l.getLast h2, (List.dropLast_concat_getLast h2).symm⟩
    rw [List.all_append] at h3
    simp only [Bool.and_eq_true, List.all_cons, List.all_nil, Bool.and_true] at h3
    have hc := of_decide_eq_true h3.2
    rw [val_snoc]
    by_cases e : l' = []
    · subst e
      have h48 : c.toNat ≠ 48 := fun e => h4 (by simp; exact UInt8.toNat_inj.1 e)
      have : val [] = 0 := rfl
      rw [this, Nat.zero_mul, Nat.zero_add, Lib.decDigits_one (by omega), ofNat_dig c h3.2]
      exact ⟨rfl, by omega⟩
    · obtain ⟨i1, i2⟩ := ih l' (by simpa using h1) e h3.1 (by cases l' with | nil => exact absurd rfl e | cons x xs => simpa using h4)
      rw [decDigits_big (by omega), show (val l' * 10 + (c.toNat - 48)) / 10 = val l' from by omega, show (val l' * 10 + (c.toNat - 48)) % 10 = c.toNat - 48 from by omega, i1, ofNat_dig c h3.2]
      exact ⟨rfl, by omega⟩
theorem foldl_ge : ∀ (l : List UInt8) (a : Nat), a ≤ l.foldl (fun a c => a * 10 + (c.toNat - 48)) a
  | [], a => Nat.le_refl _
  | c :: l, a => Nat.le_trans (by omega) (foldl_ge l (a * 10 + (c.toNat - 48)))
theorem parse_digits : ∀ (l : List UInt8) (a : Nat), l.all dig = true → l.foldl (fun a c => a * 10 + (c.toNat - 48)) a ≤ 1000000 → Lib.parseUint10 a l = .ok (l.foldl (fun a c => a * 10 + (c.toNat - 48)) a)
  | [], a, _, _ => rfl
  | c :: l, a, h, hb => by
    simp only [List.all_cons, Bool.and_eq_true] at h
    have hc := of_decide_eq_true h.1
    have h1 := foldl_ge l (a * 10 + (c.toNat - 48))
    simp only [List.foldl_cons] at hb ⊢
    unfold Lib.parseUint10
    rw [if_pos hc, if_neg (by omega), if_neg (by omega)]
    exact parse_digits l _ h.2 hb
theorem atoi_dec {u : Nat} (h : u ≤ 4096) : Lib.atoiAll (Lib.decDigits u) = .ok (u : Int) := by
  obtain ⟨h1, h2, h3, _⟩ := dec_props u
  have hp := parse_digits (Lib.decDigits u) 0 h2 (by show val _ ≤ _; rw [h1]; omega)
  have hv : (Lib.decDigits u).foldl (fun a c => a * 10 + (c.toNat - 48)) 0 = u := h1
  rw [hv] at hp
  cases e : Lib.decDigits u with
  | nil => exact absurd e h3
  | cons c r =>
    rw [e] at h2 hp
    simp only [List.all_cons, Bool.and_eq_true] at h2
    have hc := of_decide_eq_true h2.1
    rw [Lib.atoiAll_plain c r (by omega) (by omega)]
    unfold Lib.parseMag
    rw [if_neg (by simp), hp]
    unfold Lib.signless
    simp only
    rw [if_neg (by omega)]
theorem itoa_nat (u : Nat) : Lib.itoa (u : Int) = Lib.decDigits u := by unfold Lib.itoa; rw [if_neg (by omega)]; simp
end Go.Proofs.YtojlooflfojdlaaDoor.Pure
