/- Plain lemmas on the Lean functions that stand for package bits, latheref01 and the statements' own sure: what each answers. Conditions: the patterns lie from 0 to 2^32 - 1. -/
import Derived.Test.YtjmhlmfiodhjhaaQx4
import Derived.Laws.BitsAllLaws
namespace Go.Proofs.Ytjmhlmfiodhjhaa.Pure
set_option linter.unusedVariables false
open Go.RowKit Go.Proofs.Ytjmhlmfiodhjhaa.Q Go.Proofs.YtjmhlmfiodhjhaaW.PrintWords Go.Proofs.YtjmhlmfiodhjhaaW.PrintLast

def mi (a : Int) : Bool := decide (a ≥ 2147483648)
def ex (a : Int) : Int := a / 8388608 % 256
def fr (a : Int) : Int := a % 8388608
def cls (a : Int) : Int := if ex a = 0 then (if fr a = 0 then 1 else 2) else if ex a < 255 then 3 else if fr a = 0 then 4 else 5
def nan (a : Int) : Bool := decide (a % 2147483648 > 2139095040)
def key (a : Int) : Int := if a ≥ 2147483648 then -1 - (a - 2147483648) else a
def back (k : Int) : Int := if k < 0 then 2147483648 + (-1 - k) else k

theorem wr (x : Int) (h0 : -9223372036854775808 ≤ x) (h1 : x ≤ 9223372036854775807) : wrap64 x = x := by unfold wrap64; omega
theorem wf32 {a : Int} (h : (Lit.int .u32 a).wf = true) : 0 ≤ a ∧ a ≤ 4294967295 := by
  simp [Lit.wf, IntKind.min, IntKind.max, IntKind.signed, IntKind.bits] at h
  omega
theorem and_mask (i : Nat) (hi : i ≤ 32) (x : Int) (h0 : 0 ≤ x) (h1 : x ≤ 4294967295) : bits .and .u32 x (2 ^ i - 1) = x % 2 ^ i :=
  bits_mask .u32 32 (by decide) (fun n a b => by rw [IntKind.wrap_u32]; omega) i hi x h0 (by omega)
theorem nat_and_sign (n : Nat) (hn : n < 4294967296) : n &&& 2 ^ 31 = if n ≥ 2147483648 then 2147483648 else 0 := by
  apply Nat.eq_of_testBit_eq
  intro i
  rw [Nat.testBit_and, Nat.testBit_two_pow]
  by_cases hi : 31 = i
  · subst hi
    rw [Nat.testBit_eq_decide_div_mod_eq]
    split
    · have : n / 2 ^ 31 % 2 = 1 := by omega
      rw [this]; decide
    · have : n / 2 ^ 31 % 2 = 0 := by omega
      simp [this]
  · have e : (2147483648 : Nat) = 2 ^ 31 := rfl
    split
    · rw [e, Nat.testBit_two_pow]; simp [hi]
    · simp [hi]
theorem and_sign (x : Int) (h0 : 0 ≤ x) (h1 : x ≤ 4294967295) : bits .and .u32 x 2147483648 = if x ≥ 2147483648 then 2147483648 else 0 := by
  rw [u32_and _ _ h0 (by omega) (by omega) (by omega)]
  obtain ⟨n, rfl⟩ := Int.eq_ofNat_of_zero_le h0
  have e : ((2147483648 : Int)).toNat = 2 ^ 31 := by decide
  rw [e, Int.toNat_natCast, nat_and_sign n (by omega)]
  split
  · rw [if_pos (by omega)]; rfl
  · rw [if_neg (by omega)]; rfl
theorem or_join (i : Nat) (x y : Int) (h0 : 0 ≤ x) (hm : x % 2 ^ i = 0) (h1 : x ≤ 4294967295) (g0 : 0 ≤ y) (g1 : y < 2 ^ i) (g2 : y ≤ 4294967295) : bits .or .u32 x y = x + y :=
  bits_join .u32 32 (by decide) (fun n a b => by rw [IntKind.wrap_u32]; omega) i x y h0 hm (by omega) g0 g1 (by omega)
theorem or_comm (x y : Int) (h0 : 0 ≤ x) (h1 : x ≤ 4294967295) (g0 : 0 ≤ y) (g1 : y ≤ 4294967295) : bits .or .u32 x y = bits .or .u32 y x := by
  rw [u32_or _ _ h0 (by omega) g0 (by omega), u32_or _ _ g0 (by omega) h0 (by omega), Nat.or_comm]
theorem or_sign (x : Int) (h0 : 0 ≤ x) (h1 : x < 2147483648) : bits .or .u32 x 2147483648 = x + 2147483648 := by
  rw [or_comm _ _ h0 (by omega) (by omega) (by omega), or_join 31 _ _ (by omega) (by decide) (by omega) h0 (by omega) (by omega)]
  omega
theorem andNot_sign (x : Int) (h0 : 0 ≤ x) (h1 : x ≤ 4294967295) : bits .andNot .u32 x 2147483648 = x % 2147483648 := by
  rw [u32_andNot _ _ h0 (by omega) (by omega) (by omega)]
  have e : (4294967295 - ((2147483648 : Int)).toNat) = 2 ^ 31 - 1 := by decide
  rw [e, Nat.and_two_pow_sub_one_eq_mod]
  omega

theorem parts (a : Int) (h0 : 0 ≤ a) (h1 : a ≤ 4294967295) : bits_Parts.f a = some (mi a, ex a, fr a) := by
  unfold bits_Parts.f
  have e1 := and_mask 8 (by omega) (a / 8388608) (by omega) (by omega)
  have e2 := and_mask 23 (by omega) a h0 h1
  rw [show ((2 : Int) ^ 8 - 1) = 255 from rfl] at e1
  rw [show ((2 : Int) ^ 23 - 1) = 8388607 from rfl] at e2
  rw [e1, e2, and_sign a h0 h1, wr _ (by omega) (by omega), wr _ (by omega) (by omega)]
  unfold mi ex fr
  by_cases h : a ≥ 2147483648
  · simp [h]
  · simp [h]
theorem parts_ref (a : Int) (h0 : 0 ≤ a) (h1 : a ≤ 4294967295) : latheref01_Parts.f a = some (mi a, ex a, fr a) := by
  unfold latheref01_Parts.f mi ex fr
  have e1 : Int.tdiv a 8388608 = a / 8388608 := Int.tdiv_eq_ediv_of_nonneg h0
  have e2 : Int.tmod a 8388608 = a % 8388608 := Int.tmod_eq_emod_of_nonneg h0
  rw [e1, e2, wr _ (by omega) (by omega), Int.tmod_eq_emod_of_nonneg (by omega)]

theorem classes (k : Nat) (a : Int) (h0 : 0 ≤ a) (h1 : a ≤ 4294967295) : bits_Class.f (k + 1) a = some (cls a) := by
  unfold bits_Class.f
  rw [parts a h0 h1]
  simp only [Option.bind_some]
  unfold cls
  by_cases h : ex a = 0
  · rw [if_pos h, if_pos h]
    simp only [bits_Class.j0]
    by_cases g : fr a = 0
    · rw [if_pos (by simp [g]), if_pos g]
    · rw [if_neg (by simp [g]), if_pos h, if_neg g]
  · rw [if_neg h, if_neg h]
    simp only [bits_Class.j0]
    rw [if_neg (by simp), if_neg h]
    by_cases g : ex a < 255
    · rw [if_pos g, if_pos g]
    · rw [if_neg g, if_neg g]
      by_cases g : fr a = 0
      · rw [if_pos g, if_pos g]
      · rw [if_neg g, if_neg g]
theorem nan_cls (a : Int) (h0 : 0 ≤ a) (h1 : a ≤ 4294967295) : nan a = decide (cls a = 5) := by
  unfold nan cls ex fr
  apply decide_eq_decide.2
  constructor
  · intro h
    rw [if_neg (by omega), if_neg (by omega), if_neg (by omega)]
  · intro h
    split at h
    · split at h <;> omega
    · split at h
      · omega
      · split at h <;> omega
theorem keys (k : Nat) (a : Int) (h0 : 0 ≤ a) (h1 : a ≤ 4294967295) : bits_Key.f (k + 1) a = some (if nan a = true then (0, false) else (key a, true)) := by
  unfold bits_Key.f
  rw [classes k a h0 h1, nan_cls a h0 h1]
  simp only [Option.bind_some]
  by_cases h : cls a = 5
  · rw [if_pos h, decide_eq_true h]; rfl
  · rw [if_neg h, decide_eq_false h, and_sign a h0 h1]
    unfold key
    by_cases g : a ≥ 2147483648
    · rw [if_pos g, if_neg (by omega), if_neg (by decide), if_pos g, andNot_sign a h0 h1, wr (a % 2147483648) (by omega) (by omega), wr _ (by omega) (by omega)]
      have : a % 2147483648 = a - 2147483648 := by omega
      rw [this]
    · rw [if_neg g, if_pos rfl, if_neg (by decide), if_neg g, wr _ (by omega) (by omega)]
theorem isnan_ref (a : Int) (h0 : 0 ≤ a) : latheref01_Is.f a = some (nan a) := by
  unfold latheref01_Is.f nan
  rw [Int.tmod_eq_emod_of_nonneg h0]
theorem keys_ref (a : Int) (h0 : 0 ≤ a) (h1 : a ≤ 4294967295) : latheref01_Key.f a = some (if nan a = true then (0, false) else (key a, true)) := by
  unfold latheref01_Key.f
  rw [isnan_ref a h0]
  simp only [Option.bind_some]
  by_cases h : nan a = true
  · rw [if_pos h, if_pos h]
  · rw [if_neg h, if_neg h]
    unfold key
    by_cases g : a ≥ 2147483648
    · rw [if_pos g, if_pos g, wr (a - 2147483648) (by omega) (by omega), wr _ (by omega) (by omega)]
    · rw [if_neg g, if_neg g]
theorem key_range (a : Int) (h0 : 0 ≤ a) (h1 : a ≤ 4294967295) : -2147483648 ≤ key a ∧ key a < 2147483648 := by unfold key; split <;> omega
theorem at_back (x : Int) (h0 : -2147483648 ≤ x) (h1 : x < 2147483648) : bits_at.f x = some (back x) := by
  unfold bits_at.f back
  by_cases h : x < 0
  · rw [if_pos h, if_pos h, wr _ (by omega) (by omega), or_sign _ (by omega) (by omega)]
    have : (-1 - x) % 4294967296 = -1 - x := by omega
    rw [this]; congr 1; omega
  · rw [if_neg h, if_neg h]; congr 1; omega
theorem back_ref (x : Int) (h0 : -2147483648 ≤ x) (h1 : x < 2147483648) : latheref01_Back.f x = some (back x) := by
  unfold latheref01_Back.f back
  by_cases h : x < 0
  · rw [if_pos h, if_pos h, wr (-1 - x) (by omega) (by omega), wr _ (by omega) (by omega)]
  · rw [if_neg h, if_neg h]
theorem key_back (x : Int) (h0 : -2147483648 ≤ x) (h1 : x < 2147483648) : key (back x) = x := by unfold key back; split <;> split <;> omega
theorem back_key (a : Int) (h0 : 0 ≤ a) (h1 : a ≤ 4294967295) : back (key a) = a := by unfold key back; split <;> split <;> omega
theorem back_range (x : Int) (h0 : -2147483648 ≤ x) (h1 : x < 2147483648) : 0 ≤ back x ∧ back x ≤ 4294967295 := by unfold back; split <;> omega
theorem nan_key (a : Int) (h0 : 0 ≤ a) (h1 : a ≤ 4294967295) : nan a = decide (key a < -2139095041 ∨ 2139095040 < key a) := by
  unfold nan key
  apply decide_eq_decide.2
  split <;> omega
def nxt (a : Int) : Int := if nan a = true then 2143289344 else if a = 2139095040 then a else back (key a + 1)
def prv (a : Int) : Int := if nan a = true then 2143289344 else if a = 4286578688 then a else back (key a - 1)
theorem key_top (a : Int) (h0 : 0 ≤ a) (h1 : a ≤ 4294967295) (hn : ¬ nan a = true) (h : a ≠ 2139095040) : -2139095041 ≤ key a ∧ key a + 1 ≤ 2139095040 := by
  rw [nan_key a h0 h1, decide_eq_true_eq] at hn
  refine ⟨by omega, ?_⟩
  have : key a ≠ 2139095040 := by
    unfold key; split <;> omega
  omega
theorem key_bot (a : Int) (h0 : 0 ≤ a) (h1 : a ≤ 4294967295) (hn : ¬ nan a = true) (h : a ≠ 4286578688) : -2139095041 ≤ key a - 1 ∧ key a ≤ 2139095040 := by
  rw [nan_key a h0 h1, decide_eq_true_eq] at hn
  refine ⟨?_, by omega⟩
  have : key a ≠ -2139095041 := by
    unfold key; split <;> omega
  omega
theorem nexts (k : Nat) (a : Int) (h0 : 0 ≤ a) (h1 : a ≤ 4294967295) : bits_Next.f (k + 1) a = some (nxt a) := by
  unfold bits_Next.f nxt
  rw [keys k a h0 h1]
  simp only [Option.bind_some]
  by_cases hn : nan a = true
  · rw [if_pos hn, if_pos hn, if_neg (by simp)]
  · rw [if_neg hn, if_neg hn, if_pos rfl]
    by_cases h : a = 2139095040
    · rw [if_pos h, if_pos h]
    · have := key_top a h0 h1 hn h
      rw [if_neg h, if_neg h, wr _ (by omega) (by omega), at_back _ (by omega) (by omega)]
      rfl
theorem nexts_ref (a : Int) (h0 : 0 ≤ a) (h1 : a ≤ 4294967295) : latheref01_Next.f a = some (nxt a) := by
  unfold latheref01_Next.f nxt
  rw [keys_ref a h0 h1]
  simp only [Option.bind_some]
  by_cases hn : nan a = true
  · rw [if_pos hn, if_pos hn, if_neg (by simp)]
  · rw [if_neg hn, if_neg hn, if_pos rfl]
    by_cases h : a = 2139095040
    · rw [if_pos h, if_pos h, h]
    · have := key_top a h0 h1 hn h
      rw [if_neg h, if_neg h, wr _ (by omega) (by omega), back_ref _ (by omega) (by omega)]
      rfl
theorem prevs (k : Nat) (a : Int) (h0 : 0 ≤ a) (h1 : a ≤ 4294967295) : bits_Prev.f (k + 1) a = some (prv a) := by
  unfold bits_Prev.f prv
  rw [keys k a h0 h1]
  simp only [Option.bind_some]
  by_cases hn : nan a = true
  · rw [if_pos hn, if_pos hn, if_neg (by simp)]
  · rw [if_neg hn, if_neg hn, if_pos rfl]
    by_cases h : a = 4286578688
    · rw [if_pos h, if_pos h]
    · have := key_bot a h0 h1 hn h
      rw [if_neg h, if_neg h, wr _ (by omega) (by omega), at_back _ (by omega) (by omega)]
      rfl
theorem prevs_ref (a : Int) (h0 : 0 ≤ a) (h1 : a ≤ 4294967295) : latheref01_Prev.f a = some (prv a) := by
  unfold latheref01_Prev.f prv
  rw [keys_ref a h0 h1]
  simp only [Option.bind_some]
  by_cases hn : nan a = true
  · rw [if_pos hn, if_pos hn, if_neg (by simp)]
  · rw [if_neg hn, if_neg hn, if_pos rfl]
    by_cases h : a = 4286578688
    · rw [if_pos h, if_pos h]
    · have := key_bot a h0 h1 hn h
      rw [if_neg h, if_neg h, wr _ (by omega) (by omega), back_ref _ (by omega) (by omega)]
      rfl
theorem surely : lathelaw01_sure.f 20 = some true := by decide +kernel
theorem surely_k (k : Nat) : lathelaw01_sure.f (k + 20) = some true := by
  induction k with
  | zero => exact surely
  | succ k ih => exact lathelaw01_sure.mono _ _ ih
end Go.Proofs.Ytjmhlmfiodhjhaa.Pure
