/- What the Lean functions of layer 10 answer: lines, texts, what is read of them. Conditions: those that each theorem names. -/
import Derived.Test.YtojlooflfojdlaaDoorSignB
import Derived.Test.YtojlooflfojdlaaDoorQx6
import Derived.Test.YtojlooflfojdlaaDoorQx7
import Derived.Test.YtojlooflfojdlaaDoorQx8
import Derived.Test.YtojlooflfojdlaaDoorQx9
namespace Go.Proofs.YtojlooflfojdlaaDoor.Pure
set_option linter.unusedVariables false
open Go.RowKit Go.Proofs.YtojlooflfojdlaaDoor.Q Go.Proofs.YtojlooflfojdlaaDoorW.PrintWords Go.Proofs.YtojlooflfojdlaaDoorW.PrintLast

/-! ### a length -/
def numz (z : List UInt8) : Option Int := if 1 ≤ val z ∧ val z ≤ 4096 ∧ Lib.decDigits (val z) = z then some (val z : Int) else none
theorem numz_some {z : List UInt8} {n : Int} (h : numz z = some n) : ∃ m : Nat, n = m ∧ 1 ≤ m ∧ m ≤ 4096 ∧ z = Lib.decDigits m ∧ val z = m := by
  unfold numz at h
  split at h
  · rename_i hc
    exact ⟨val z, (Option.some.inj h).symm, hc.1, hc.2.1, hc.2.2.symm, rfl⟩
  · cases h
theorem numz_dec {m : Nat} (h1 : 1 ≤ m) (h2 : m ≤ 4096) : numz (Lib.decDigits m) = some (m : Int) := by
  have hv := (dec_props m).1
  unfold numz
  rw [hv, if_pos ⟨h1, h2, rfl⟩]
theorem numz_atoi {z : List UInt8} {n : Int} (h : numz z = some n) : Lib.atoiAll z = .ok n ∧ Lib.itoa n = z ∧ 1 ≤ n ∧ n ≤ 4096 := by
  obtain ⟨m, rfl, h1, h2, rfl, _⟩ := numz_some h
  exact ⟨atoi_dec h2, itoa_nat m, by omega, by omega⟩
theorem atoi_numz {z : List UInt8} {n : Int} (h : Lib.itoa n = z) (h1 : 1 ≤ n) (h2 : n ≤ 4096) : numz z = some n := by
  obtain ⟨m, rfl⟩ : ∃ m : Nat, n = m := ⟨n.toNat, by omega⟩
  rw [itoa_nat] at h
  rw [← h]
  exact numz_dec (by omega) (by omega)
def lenz (z : List UInt8) : Int × Bool := if z = [] then (0, false) else if z.length > 4 then (0, false) else if z.head? = some 48 then (0, false) else if z.all dig = true then ((val z : Int), decide ((val z : Int) ≤ 4096)) else (0, false)
theorem numz_lenz {z : List UInt8} {n : Int} (h : numz z = some n) : lenz z = (n, true) := by
  obtain ⟨m, rfl, h1, h2, rfl, hv⟩ := numz_some h
  obtain ⟨_, p2, p3, p4⟩ := dec_props m
  have p5 := dec_len h2
  unfold lenz
  rw [if_neg p3, if_neg (by omega), if_neg (p4 h1), if_pos p2, hv]
  simp; omega
theorem lenz_numz {z : List UInt8} {n : Int} (h : lenz z = (n, true)) : numz z = some n := by
  unfold lenz at h
  split at h
  · cases h
  split at h
  · cases h
  split at h
  · cases h
  split at h
  · rename_i h1 h2 h3 h4
    simp only [Prod.mk.injEq, decide_eq_true_eq] at h
    obtain ⟨d1, d2⟩ := dec_val _ z rfl h1 h4 h3
    obtain ⟨rfl, hb⟩ := h
    unfold numz
    rw [if_pos ⟨d2, by omega, d1⟩]
  · cases h
theorem bt_dl (s : ByteArray) (i : Nat) (h : i < s.size) : ∃ c : UInt8, (dl s).drop i = c :: (dl s).drop (i + 1) ∧ bt s (i : Int) = (c.toNat : Int) := by
  have hl : i < (dl s).length := by rw [dl_length]; exact h
  refine ⟨(dl s)[i], List.drop_eq_getElem_cons hl, ?_⟩
  unfold bt
  rw [dif_pos (by simpa using h)]
  simp [ByteArray.getElem_eq_getElem_data]
def lenF (l : List UInt8) (a : Nat) : Int × Bool := if l.all dig = true then (((l.foldl (fun a c => a * 10 + (c.toNat - 48)) a : Nat) : Int), decide (((l.foldl (fun a c => a * 10 + (c.toNat - 48)) a : Nat) : Int) ≤ 4096)) else ((0 : Int), false)
theorem lenF_dig {c : UInt8} (h : dig c = true) (l : List UInt8) (a : Nat) : lenF (c :: l) a = lenF l (a * 10 + (c.toNat - 48)) := by
  unfold lenF
  rw [List.all_cons, h, Bool.true_and, List.foldl_cons]
theorem lenF_not {c : UInt8} (h : ¬ dig c = true) (l : List UInt8) (a : Nat) : lenF (c :: l) a = (0, false) := by
  unfold lenF
  rw [List.all_cons, Bool.eq_false_iff.2 h, Bool.false_and, if_neg (by decide)]
theorem length_l0 (z : ByteArray) (hz : z.size ≤ 4) : ∀ (d i a : Nat), z.size - i = d → i ≤ z.size → a < 10 ^ i → Ev (fun k => latheref10_length.l0 k z (a : Int) (i : Int)) (lenF ((dl z).drop i) a) := by
  intro d
  induction d with
  | zero =>
    intro i a h hi ha
    refine Ev.one fun k => ?_
    rw [latheref10_length.l0, if_neg (by omega), List.drop_of_length_le (by rw [dl_length]; omega)]
    rfl
  | succ d ih =>
    intro i a h hi ha
    obtain ⟨c, h1, h2⟩ := bt_dl z i (by omega)
    rw [h1]
    have hp : 10 ^ i ≤ 10 ^ 4 := Nat.pow_le_pow_right (by decide) (by omega)
    by_cases hd : dig c = true
    · have hc := of_decide_eq_true hd
      rw [lenF_dig hd]
      refine Ev.step (fun k => ?_) (ih (i + 1) (a * 10 + (c.toNat - 48)) (by omega) (by omega) (by rw [Nat.pow_succ]; omega))
      rw [latheref10_length.l0, if_pos (by omega), if_pos (by omega), h2, if_neg (by omega), if_neg (by omega), wr64 ((i : Int) + 1) (by omega) (by omega), wr64 ((a : Int) * 10) (by omega) (by omega), wr64 _ (by omega) (by omega)]
      congr 1
      omega
    · rw [lenF_not hd]
      have hc : ¬ (48 ≤ c.toNat ∧ c.toNat ≤ 57) := of_decide_eq_false (Bool.eq_false_iff.2 hd)
      refine Ev.one fun k => ?_
      rw [latheref10_length.l0, if_pos (by omega), if_pos (by omega), h2]
      by_cases h3 : (c.toNat : Int) < 48
      · rw [if_pos h3]
      · rw [if_neg h3, if_pos (by omega)]
theorem length_ev (z : ByteArray) : Ev (fun k => latheref10_length.f k z) (lenz (dl z)) := by
  unfold latheref10_length.f lenz
  by_cases h1 : dl z = []
  · refine Ev.one fun k => ?_
    rw [if_pos (by rw [toList_data]; exact h1), latheref10_length.j0, if_pos rfl, if_pos h1]
  have h1' : ¬ z.toList = ([] : List UInt8) := by rw [toList_data]; exact h1
  rw [if_neg h1]
  by_cases h2 : (dl z).length > 4
  · refine Ev.one fun k => ?_
    rw [if_neg h1', if_pos (by rw [dl_length] at h2; omega), latheref10_length.j0, if_pos rfl, if_pos h2]
  rw [if_neg h2]
  rw [dl_length] at h2
  have h0 : 0 < z.size := by
    rcases Nat.eq_zero_or_pos z.size with e | e
    · exact absurd (List.length_eq_zero_iff.1 (by rw [dl_length]; exact e)) h1
    · exact e
  obtain ⟨c, h3, h4⟩ := bt_dl z 0 h0
  rw [List.drop_zero] at h3
  by_cases h5 : c = 48
  · refine Ev.one fun k => ?_
    rw [if_neg h1', if_neg (by omega), if_pos (by omega), latheref10_length.j0, if_pos (by rw [show (0 : Int) = ((0 : Nat) : Int) from rfl, h4, h5]; rfl), if_pos (by rw [h3, h5]; rfl)]
  · have h6 : ¬ ((bt z 0 == 48) = true) := fun e => h5 (by
      have e := beq_iff_eq.1 e
      rw [show (0 : Int) = ((0 : Nat) : Int) from rfl, h4] at e
      exact UInt8.toNat_inj.1 (by have : (48 : UInt8).toNat = 48 := rfl; omega))
    rw [if_neg (by rw [h3]; simpa using h5)]
    have h := length_l0 z (by omega) _ 0 0 rfl (by omega) (by simp)
    rw [List.drop_zero] at h
    refine Ev.step (fun k => ?_) h
    rw [if_neg h1', if_neg (by omega), if_pos (by omega), latheref10_length.j0, if_neg h6]
    rfl

/-! ### a line -/
def lineL : List (List UInt8) → Option Pm
  | [x, y, z] => if y = [114, 101, 97, 108] then ((numz z).bind fun n => if nmB (mk x) = true then some ⟨mk x, 1, n⟩ else none) else if y = [99, 111, 109, 112, 108, 101, 120] then ((numz z).bind fun n => if nmB (mk x) = true then some ⟨mk x, 2, n⟩ else none) else none
  | _ => none
def res (r : ByteArray × Int × Int × Bool) : Option Pm := if r.2.2.2 = true then some ⟨r.1, r.2.1, r.2.2.1⟩ else none
theorem may_of (x : ByteArray) (kind n : Int) (hk : kind = 1 ∨ kind = 2) (h1 : 1 ≤ n) (h2 : n ≤ 4096) : mayB ⟨x, kind, n⟩ = nmB x := by
  unfold mayB
  simp only
  rw [decide_eq_true hk, decide_eq_true ⟨h1, h2⟩, Bool.and_true, Bool.and_true]
theorem line_t (x z : ByteArray) (kind : Int) (hk : kind = 1 ∨ kind = 2) : ∃ r, sign_line.t x z kind = some r ∧ res r = (numz (dl z)).bind fun n => if nmB x = true then some ⟨x, kind, n⟩ else none := by
  have none_of : (∀ n, Lib.atoiAll (dl z) = .ok n → Lib.itoa n = dl z → ¬ (1 ≤ n ∧ n ≤ 4096)) → (numz (dl z)) = none := fun h => by
    cases e : numz (dl z) with
    | none => rfl
    | some n =>
      obtain ⟨a, b, c, d⟩ := numz_atoi e
      exact absurd ⟨c, d⟩ (h n a b)
  unfold sign_line.t
  cases hc : Lib.atoiAll z.data.toList with
  | ok n =>
    simp only
    by_cases he : (⟨(Lib.itoa n).toArray⟩ : ByteArray).toList = z.toList
    · rw [if_pos he, may_eq, Option.bind_some]
      have he' : Lib.itoa n = dl z := by rw [toList_data, toList_data] at he; exact he
      refine ⟨_, rfl, ?_⟩
      unfold res
      simp only
      by_cases hr : 1 ≤ n ∧ n ≤ 4096
      · rw [atoi_numz he' hr.1 hr.2, Option.bind_some, may_of x kind n hk hr.1 hr.2]
      · have hm : mayB ⟨x, kind, n⟩ = false := by unfold mayB; simp only; rw [decide_eq_false hr, Bool.and_false]
        rw [hm, if_neg (by decide), none_of (fun n' h _ => by rw [hc] at h; injection h with h; rw [← h]; exact hr)]
        rfl
    · rw [if_neg he]
      refine ⟨_, rfl, ?_⟩
      rw [none_of (fun n' h hi => by rw [hc] at h; injection h with h; rw [← h] at hi; exact absurd (by rw [toList_data, toList_data]; exact hi) he)]
      rfl
  | _ =>
    refine ⟨_, rfl, ?_⟩
    rw [none_of (fun n' h => by rw [hc] at h; cases h)]
    rfl
theorem real_iff (y : ByteArray) (l : List UInt8) : y.toList = l ↔ dl y = l := by rw [toList_data]
theorem line_eq (s : ByteArray) (hs : s.size < 4294967281) : ∃ r, sign_line.f s = some r ∧ res r = lineL (spl 32 (dl s)) := by
  unfold sign_line.f
  rw [if_pos hs]
  have hm := splitB_spl s 32
  generalize Lib.splitB ⟨#[32]⟩ 0 (Lib.countB s ⟨#[32]⟩) s = l at hm ⊢
  rw [← hm]
  match l with
  | [] => exact ⟨_, rfl, rfl⟩
  | [_] => exact ⟨_, rfl, rfl⟩
  | [_, _] => exact ⟨_, rfl, rfl⟩
  | [x, y, z] =>
    simp only [sign_line.g, List.map_cons, List.map_nil, lineL, mk_dl]
    by_cases h1 : dl y = [114, 101, 97, 108]
    · rw [if_pos ((real_iff y _).2 h1), if_pos h1]
      exact line_t x z 1 (.inl rfl)
    · rw [if_neg (fun e => h1 ((real_iff y _).1 e)), if_neg h1]
      by_cases h2 : dl y = [99, 111, 109, 112, 108, 101, 120]
      · rw [if_pos ((real_iff y _).2 h2), if_pos h2]
        exact line_t x z 2 (.inr rfl)
      · rw [if_neg (fun e => h2 ((real_iff y _).1 e)), if_neg h2]
        exact ⟨_, rfl, rfl⟩
  | _ :: _ :: _ :: _ :: _ => exact ⟨_, rfl, rfl⟩
theorem glue_map (p : List UInt8) (l : List (List UInt8)) (h : l ≠ []) : ∃ q qs, l = q :: qs ∧ glue p l = (p ++ q) :: qs := by
  cases l with
  | nil => exact absurd rfl h
  | cons q qs => exact ⟨q, qs, rfl, rfl⟩
theorem words_l0 (s : ByteArray) (hs : s.size ≤ 1000000) : ∀ (d i f : Nat) (acc : List ByteArray), s.size - i = d → f ≤ i → i ≤ s.size → acc.length ≤ i → Ev (fun k => latheref10_words.l0 k s acc (f : Int) (i : Int)) (acc ++ (glue (((dl s).take i).drop f) (spl 32 ((dl s).drop i))).map mk) := by
  intro d
  induction d with
  | zero =>
    intro i f acc h hf hi ha
    have hin : i = s.size := by omega
    have e1 : (dl s).drop i = [] := List.drop_of_length_le (by rw [dl_length]; omega)
    rw [e1, spl_nil]
    have e2 : (glue (((dl s).take i).drop f) [[]]).map mk = [s.extract f i] := by
      simp only [glue, List.append_nil, List.map_cons, List.map_nil]
      rw [← dl_extract, mk_dl]
    rw [e2]
    refine ⟨2, fun k hk => ?_⟩
    obtain ⟨k, rfl⟩ : ∃ m, k = m + 2 := ⟨k - 2, by omega⟩
    show latheref10_words.l0 (k + 1 + 1) s acc (f : Int) (i : Int) = _
    rw [latheref10_words.l0, if_pos (by omega), if_pos (by omega), if_pos (by omega), if_pos (by omega), if_pos (by omega), wr64 _ (by omega) (by omega), latheref10_words.l0, if_neg (by omega)]
    rw [Int.toNat_natCast, Int.toNat_natCast]
  | succ d ih =>
    intro i f acc h hf hi ha
    obtain ⟨c, h1, h2⟩ := bt_dl s i (by omega)
    have htk : (dl s).take (i + 1) = (dl s).take i ++ [c] := by
      rw [List.take_add_one]
      have : (dl s)[i]? = some c := by rw [← List.head?_drop, h1]; rfl
      rw [this]; rfl
    have hln : ((dl s).take i).length = i := by rw [List.length_take, dl_length]; omega
    by_cases hc : c = 32
    · subst hc
      rw [h1, glue_hit, List.map_cons]
      have e3 : mk (((dl s).take i).drop f) = s.extract f i := by rw [← dl_extract, mk_dl]
      rw [e3]
      have := ih (i + 1) (i + 1) (acc ++ [s.extract f i]) (by omega) (by omega) (by omega) (by simp; omega)
      rw [List.drop_of_length_le (by rw [List.length_take, dl_length]; omega), glue_nil, List.append_assoc, List.singleton_append] at this
      refine Ev.step (fun k => ?_) this
      rw [latheref10_words.l0, if_pos (by omega), if_neg (by omega), if_pos (by omega), if_pos (by omega), h2, if_pos (show ((UInt8.toNat 32 : Nat) : Int) = 32 from rfl), if_pos (by omega), if_pos (by omega), if_pos (by omega), wr64 _ (by omega) (by omega)]
      rw [Int.toNat_natCast, Int.toNat_natCast]
      rfl
    · rw [h1, glue_miss hc]
      have := ih (i + 1) f acc (by omega) (by omega) (by omega) (by omega)
      rw [htk, List.drop_append_of_le_length (by omega)] at this
      refine Ev.step (fun k => ?_) this
      rw [latheref10_words.l0, if_pos (by omega), if_neg (by omega), if_pos (by omega), if_pos (by omega), h2, if_neg (fun e => hc (UInt8.toNat_inj.1 (by have : (32 : UInt8).toNat = 32 := rfl; omega))), wr64 _ (by omega) (by omega)]
      rfl
theorem words_ev (s : ByteArray) (hs : s.size ≤ 1000000) : Ev (fun k => latheref10_words.f k s) ((spl 32 (dl s)).map mk) := by
  have h := words_l0 s hs _ 0 0 [] rfl (by omega) (by omega) (by simp)
  simp only [List.take_zero, List.drop_zero, List.drop_nil, glue_nil, List.nil_append] at h
  exact h
theorem rline_t (x z : ByteArray) (kind : Int) (hk : kind = 1 ∨ kind = 2) : ∃ r, Ev (fun k => latheref10_Line.t k x z kind) r ∧ res r = (numz (dl z)).bind fun n => if nmB x = true then some ⟨x, kind, n⟩ else none := by
  unfold latheref10_Line.t
  cases e : numz (dl z) with
  | some n =>
    have hl := numz_lenz e
    obtain ⟨_, _, h1, h2⟩ := numz_atoi e
    refine ⟨if nmB x = true then (x, kind, n, true) else latheref10_Line.z, Ev.bind (a := (n, true)) (by rw [← hl]; exact length_ev z) (Ev.congr (fun k => if_pos rfl) (Ev.bind (may_ev x kind n) (Ev.const fun k => ?_))), ?_⟩
    · rw [may_of x kind n hk h1 h2]; split <;> rfl
    · rw [Option.bind_some]
      split
      · rfl
      · rfl
  | none =>
    refine ⟨latheref10_Line.z, Ev.bind (length_ev z) ?_, rfl⟩
    cases hl : lenz (dl z) with
    | mk n ok =>
      cases ok with
      | true => rw [lenz_numz hl] at e; cases e
      | false => exact Ev.const fun k => if_neg (by simp)
theorem rline_ev (s : ByteArray) (hs : s.size ≤ 1000000) : ∃ r, Ev (fun k => latheref10_Line.f k s) r ∧ res r = lineL (spl 32 (dl s)) := by
  have hw := words_ev s hs
  generalize spl 32 (dl s) = l at hw ⊢
  have stop : ∀ r : ByteArray × Int × Int × Bool, (∀ k, latheref10_Line.g k (l.map mk) = some r) → Ev (fun k => latheref10_Line.f k s) r := fun r h => Ev.bind hw (Ev.const h)
  match l, hw, stop with
  | [], hw, stop => exact ⟨latheref10_Line.z, stop _ (fun _ => rfl), rfl⟩
  | [_], hw, stop => exact ⟨latheref10_Line.z, stop _ (fun _ => rfl), rfl⟩
  | [_, _], hw, stop => exact ⟨latheref10_Line.z, stop _ (fun _ => rfl), rfl⟩
  | [x, y, z], hw, stop =>
    simp only [lineL]
    by_cases h1 : y = [114, 101, 97, 108]
    · rw [if_pos h1]
      obtain ⟨r, h2, h3⟩ := rline_t (mk x) (mk z) 1 (.inl rfl)
      exact ⟨r, Ev.bind hw (Ev.congr (fun k => by simp only [List.map_cons, List.map_nil, latheref10_Line.g]; rw [if_pos ((real_iff (mk y) _).2 h1)]) h2), h3⟩
    · rw [if_neg h1]
      by_cases h2 : y = [99, 111, 109, 112, 108, 101, 120]
      · rw [if_pos h2]
        obtain ⟨r, h3, h4⟩ := rline_t (mk x) (mk z) 2 (.inr rfl)
        exact ⟨r, Ev.bind hw (Ev.congr (fun k => by simp only [List.map_cons, List.map_nil, latheref10_Line.g]; rw [if_neg (fun e => h1 ((real_iff (mk y) _).1 e)), if_pos ((real_iff (mk y) _).2 h2)]) h3), h4⟩
      · rw [if_neg h2]
        refine ⟨latheref10_Line.z, stop _ (fun k => ?_), rfl⟩
        simp only [List.map_cons, List.map_nil, latheref10_Line.g]
        rw [if_neg (fun e => h1 ((real_iff (mk y) _).1 e)), if_neg (fun e => h2 ((real_iff (mk y) _).1 e))]
  | _ :: _ :: _ :: _ :: _, hw, stop => exact ⟨latheref10_Line.z, stop _ (fun _ => rfl), rfl⟩
end Go.Proofs.YtojlooflfojdlaaDoor.Pure
