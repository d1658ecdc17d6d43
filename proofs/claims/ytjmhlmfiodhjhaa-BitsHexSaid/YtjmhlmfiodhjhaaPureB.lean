/- Plain lemmas: the eight digits of a pattern and what a text of eight digits is, for package bits and latheref01. Conditions: the patterns lie from 0 to 2^32 - 1. -/
import Derived.Test.YtjmhlmfiodhjhaaPureA
namespace Go.Proofs.Ytjmhlmfiodhjhaa.Pure
set_option linter.unusedVariables false
open Go.RowKit Go.Proofs.Ytjmhlmfiodhjhaa.Q Go.Proofs.YtjmhlmfiodhjhaaW.PrintWords Go.Proofs.YtjmhlmfiodhjhaaW.PrintLast

def dgs : ByteArray := ⟨#[48, 49, 50, 51, 52, 53, 54, 55, 56, 57, 97, 98, 99, 100, 101, 102]⟩
def val (c : Int) : Int := if c ≥ 48 then (if c ≤ 57 then c - 48 else if c ≥ 97 then (if c ≤ 102 then c - 87 else -1) else -1) else -1
def dig (d : Int) : Int := if d < 10 then d + 48 else d + 87
theorem dig_hex (d : Int) (h0 : 0 ≤ d) (h1 : d < 16) : bits_Hex.dig d = dig d := by
  obtain ⟨n, rfl⟩ := Int.eq_ofNat_of_zero_le h0
  have hn : n < 16 := by omega
  have : ∀ n : Nat, n < 16 → bits_Hex.dig (n : Int) = dig (n : Int) := by decide +kernel
  exact this n hn
theorem val_dig (d : Int) (h0 : 0 ≤ d) (h1 : d < 16) : val (dig d) = d := by
  unfold val dig; split <;> (repeat' split) <;> omega
theorem dig_val (c : Int) (h : 0 ≤ val c) : dig (val c) = c := by
  unfold val at h ⊢; unfold dig
  split at h
  · rename_i h1
    rw [if_pos h1]
    split at h
    · rename_i h2
      rw [if_pos h2, if_pos (by omega)]; omega
    · rename_i h2
      rw [if_neg h2]
      split at h
      · rename_i h3
        rw [if_pos h3]
        split at h
        · rename_i h4
          rw [if_pos h4, if_neg (by omega)]; omega
        · omega
      · omega
  · omega
theorem val_lt (c : Int) : val c < 16 := by unfold val; repeat' split <;> omega
def hexs (a : Int) : ByteArray := strOfNums [dig (a / 268435456 % 16), dig (a / 16777216 % 16), dig (a / 1048576 % 16), dig (a / 65536 % 16), dig (a / 4096 % 16), dig (a / 256 % 16), dig (a / 16 % 16), dig (a % 16)]
theorem hexes (a : Int) (h0 : 0 ≤ a) (h1 : a ≤ 4294967295) : bits_Hex.f a = some (hexs a) := by
  unfold bits_Hex.f hexs
  rw [if_pos h0, if_pos h1, dig_hex _ (by omega) (by omega), dig_hex _ (by omega) (by omega), dig_hex _ (by omega) (by omega), dig_hex _ (by omega) (by omega), dig_hex _ (by omega) (by omega), dig_hex _ (by omega) (by omega), dig_hex _ (by omega) (by omega), dig_hex _ (by omega) (by omega)]
theorem one_dig (d : Int) (h0 : 0 ≤ d) (h1 : d < 16) : dgs.extract d.toNat (d + 1).toNat = strOfNums [dig d] := by
  obtain ⟨n, rfl⟩ := Int.eq_ofNat_of_zero_le h0
  have hn : n < 16 := by omega
  have : ∀ n : Nat, n < 16 → (dgs.extract ((n : Int)).toNat ((n : Int) + 1).toNat).data = (strOfNums [dig (n : Int)]).data := by decide +kernel
  exact ByteArray.ext (this n hn)
theorem strs_cons (x : Int) (xs : List Int) : strOfNums [x] ++ strOfNums xs = strOfNums (x :: xs) := by
  apply ByteArray.ext
  rw [ByteArray.data_append]
  apply Array.ext'
  simp [strOfNums]
theorem hex_step (k : Nat) (x0 x4 : Int) (xs : List Int) (h0 : 0 ≤ x0) (h1 : x0 ≤ 4294967295) (hl : xs.length ≤ 8) (h4 : x4 < 8) (h5 : 0 ≤ x4) :
    latheref01_Hex.l0 (k + 1) x0 (strOfNums xs) x4 = latheref01_Hex.l0 k (x0 / 16) (strOfNums (dig (x0 % 16) :: xs)) (x4 + 1) := by
  rw [latheref01_Hex.l0, if_pos h4]
  have e1 : Int.tmod x0 16 = x0 % 16 := Int.tmod_eq_emod_of_nonneg h0
  have e2 : Int.tdiv x0 16 = x0 / 16 := Int.tdiv_eq_ediv_of_nonneg h0
  have e3 : wrap64 (x0 % 16 + 1) = x0 % 16 + 1 := wr _ (by omega) (by omega)
  have e4 := one_dig (x0 % 16) (by omega) (by omega)
  unfold dgs at e4
  rw [e1, e2, e3, e4, if_pos (by omega), if_pos (by omega), if_pos (by omega), if_pos (by rw [strOfNums_size, strOfNums_size]; simp; omega), strs_cons, wr _ (by omega) (by omega), wr _ (by omega) (by omega)]
theorem hexes_ref (k : Nat) (a : Int) (h0 : 0 ≤ a) (h1 : a ≤ 4294967295) : latheref01_Hex.f (k + 9) a = some (hexs a) := by
  unfold latheref01_Hex.f
  rw [show ((⟨#[]⟩ : ByteArray)) = strOfNums [] from rfl]
  rw [hex_step _ _ _ _ h0 h1 (by simp) (by omega) (by omega), hex_step _ _ _ _ (by omega) (by omega) (by simp) (by omega) (by omega), hex_step _ _ _ _ (by omega) (by omega) (by simp) (by omega) (by omega), hex_step _ _ _ _ (by omega) (by omega) (by simp) (by omega) (by omega),
    hex_step _ _ _ _ (by omega) (by omega) (by simp) (by omega) (by omega), hex_step _ _ _ _ (by omega) (by omega) (by simp) (by omega) (by omega), hex_step _ _ _ _ (by omega) (by omega) (by simp) (by omega) (by omega), hex_step _ _ _ _ (by omega) (by omega) (by simp) (by omega) (by omega)]
  rw [latheref01_Hex.l0, if_neg (by omega)]
  unfold hexs
  have e7 : a / 16 / 16 / 16 / 16 / 16 / 16 / 16 = a / 268435456 := by omega
  have e6 : a / 16 / 16 / 16 / 16 / 16 / 16 = a / 16777216 := by omega
  have e5 : a / 16 / 16 / 16 / 16 / 16 = a / 1048576 := by omega
  have e4 : a / 16 / 16 / 16 / 16 = a / 65536 := by omega
  have e3 : a / 16 / 16 / 16 = a / 4096 := by omega
  have e2 : a / 16 / 16 = a / 256 := by omega
  rw [e7, e6, e5, e4, e3, e2]

/-- What is read from place i on: d bytes are left, a is what came before. -/
def rdv (s : ByteArray) : Nat → Int → Int → Int × Bool
  | 0, _, a => (a, true)
  | d + 1, i, a => if val (bt s i) < 0 then (0, false) else rdv s d (i + 1) (a * 16 + val (bt s i))
theorem pow_pos16 (d : Nat) : (0 : Int) < 16 ^ d := Int.pow_pos (by omega)
theorem bound_step (a v : Int) (d : Nat) (h : (a + 1) * 16 ^ (d + 1) ≤ 4294967296) (hv0 : 0 ≤ v) (hv : v < 16) (ha : 0 ≤ a) : (a * 16 + v + 1) * 16 ^ d ≤ 4294967296 ∧ a * 16 + v + 1 ≤ 4294967296 := by
  have hp := pow_pos16 d
  have e : (a + 1) * 16 ^ (d + 1) = ((a + 1) * 16) * 16 ^ d := by rw [Int.pow_succ, Int.mul_comm ((16 : Int) ^ d) 16, ← Int.mul_assoc]
  have h1 : (a * 16 + v + 1) * 16 ^ d ≤ ((a + 1) * 16) * 16 ^ d := Int.mul_le_mul_of_nonneg_right (by omega) (by omega)
  have h2 : (a * 16 + v + 1) * 1 ≤ (a * 16 + v + 1) * 16 ^ d := Int.mul_le_mul_of_nonneg_left (by omega) (by omega)
  omega
theorem or_low (a v : Int) (ha : 0 ≤ a) (hv0 : 0 ≤ v) (hv : v < 16) (h : a * 16 + v + 1 ≤ 4294967296) : Go.bits .or .u32 ((a * 16) % 4294967296) v = a * 16 + v := by
  have e : (a * 16) % 4294967296 = a * 16 := by omega
  rw [e, or_join 4 _ _ (by omega) (by omega) (by omega) hv0 (by omega) (by omega)]
theorem read_loop (s : ByteArray) (hs : (s.size : Int) = 8) (d : Nat) : ∀ (k : Nat) (i a : Int), 0 ≤ i → i + d = 8 → 0 ≤ a → (a + 1) * 16 ^ d ≤ 4294967296 → 2 * d + 1 ≤ k → bits_Read.l0 k s a 8 i = some (rdv s d i a) := by
  induction d with
  | zero =>
    intro k i a h0 hi ha hb hk
    obtain ⟨k, rfl⟩ : ∃ m, k = m + 1 := ⟨k - 1, by omega⟩
    rw [bits_Read.l0, if_neg (by omega)]; rfl
  | succ d ih =>
    intro k i a h0 hi ha hb hk
    obtain ⟨k, rfl⟩ : ∃ m, k = m + 1 + 1 := ⟨k - 2, by omega⟩
    have hr := bt_range s i
    have hw : wrap64 (i + 1) = i + 1 := wr _ (by omega) (by omega)
    rw [bits_Read.l0, if_pos (by omega), if_pos h0, if_pos (by omega)]
    simp only [rdv]
    generalize bt s i = c at hr ⊢
    have hv := val_lt c
    by_cases c1 : c ≥ 48
    · rw [if_pos c1]
      by_cases c2 : c ≤ 57
      · have e : val c = c - 48 := by unfold val; rw [if_pos c1, if_pos c2]
        obtain ⟨b1, b2⟩ := bound_step a (c - 48) d hb (by omega) (by omega) ha
        rw [bits_Read.j1, if_pos (by simp [c2]), hw, show (c - 48) % 256 = c - 48 from by omega, or_low _ _ ha (by omega) (by omega) b2, e, if_neg (by omega)]
        exact ih k _ _ (by omega) (by omega) (by omega) b1 (by omega)
      · rw [bits_Read.j1, if_neg (by simp [c2])]
        by_cases c3 : c ≥ 97
        · rw [if_pos c3]
          by_cases c4 : c ≤ 102
          · have e : val c = c - 87 := by unfold val; rw [if_pos c1, if_neg c2, if_pos c3, if_pos c4]
            obtain ⟨b1, b2⟩ := bound_step a (c - 87) d hb (by omega) (by omega) ha
            rw [if_pos c4, hw, show ((c - 97) % 256 + 10) % 256 = c - 87 from by omega, or_low _ _ ha (by omega) (by omega) b2, e, if_neg (by omega)]
            exact ih k _ _ (by omega) (by omega) (by omega) b1 (by omega)
          · have e : val c = -1 := by unfold val; rw [if_pos c1, if_neg c2, if_pos c3, if_neg c4]
            rw [if_neg c4, e, if_pos (by omega)]
        · have e : val c = -1 := by unfold val; rw [if_pos c1, if_neg c2, if_neg c3]
          rw [if_neg c3, e, if_pos (by omega)]
    · have e : val c = -1 := by unfold val; rw [if_neg c1]
      rw [if_neg c1, bits_Read.j1, if_neg (by simp), if_neg (by omega), e, if_pos (by omega)]
def readv (s : ByteArray) : Int × Bool := if (s.size : Int) = 8 then rdv s 8 0 0 else (0, false)
theorem reads (k : Nat) (s : ByteArray) : bits_Read.f (k + 17) s = some (readv s) := by
  unfold bits_Read.f readv
  by_cases h : (s.size : Int) = 8
  · rw [if_pos h, if_pos h, h]
    exact read_loop s h 8 _ 0 0 (by omega) (by omega) (by omega) (by decide) (by omega)
  · rw [if_neg h, if_neg h]
/-- Where a byte stands among the digits, the places from x7 on being asked. -/
def among (c : Int) : Nat → Int → Int → Int
  | 0, at_, _ => at_
  | n + 1, at_, x => among c n (if bt dgs x = c then x else at_) (x + 1)
theorem among_val (c : Int) (h0 : 0 ≤ c) (h1 : c ≤ 255) : among c 16 (-1) 0 = val c := by
  obtain ⟨n, rfl⟩ := Int.eq_ofNat_of_zero_le h0
  have : ∀ n : Nat, n < 256 → among (n : Int) 16 (-1) 0 = val (n : Int) := by decide +kernel
  exact this n (by omega)
theorem among_loop (s : ByteArray) (x4 x5 : Int) (h5 : 0 ≤ x5) (h6 : x5 < (s.size : Int)) (n : Nat) : ∀ (k : Nat) (x6 x7 : Int), 0 ≤ x7 → x7 + n = 16 → 
    latheref01_Read.l1 (k + n) s x4 x5 x6 x7 = latheref01_Read.l1 k s x4 x5 (among (bt s x5) n x6 x7) 16 := by
  induction n with
  | zero => intro k x6 x7 h0 h1; rw [show x7 = 16 by omega]; rfl
  | succ n ih =>
    intro k x6 x7 h0 h1
    rw [← Nat.add_assoc, latheref01_Read.l1, if_pos (by omega), if_pos h0, if_pos h5, if_pos h6, wr (x7 + 1) (by omega) (by omega)]
    simp only [among]
    unfold dgs
    by_cases h : bt ⟨#[48, 49, 50, 51, 52, 53, 54, 55, 56, 57, 97, 98, 99, 100, 101, 102]⟩ x7 = bt s x5
    · rw [if_pos h, if_pos h]; exact ih k _ _ (by omega) (by omega)
    · rw [if_neg h, if_neg h]; exact ih k _ _ (by omega) (by omega)
theorem read_loop_ref (s : ByteArray) (hs : (s.size : Int) = 8) (d : Nat) : ∀ (k : Nat) (i a : Int), 0 ≤ i → i + d = 8 → 0 ≤ a → (a + 1) * 16 ^ d ≤ 4294967296 → 18 * d + 1 ≤ k → latheref01_Read.l0 k s a i = some (rdv s d i a) := by
  induction d with
  | zero =>
    intro k i a h0 hi ha hb hk
    obtain ⟨k, rfl⟩ : ∃ m, k = m + 1 := ⟨k - 1, by omega⟩
    rw [latheref01_Read.l0, if_neg (by omega)]; rfl
  | succ d ih =>
    intro k i a h0 hi ha hb hk
    obtain ⟨k, rfl⟩ : ∃ m, k = m + 1 + 16 + 1 := ⟨k - 18, by omega⟩
    have hr := bt_range s i
    have hw : wrap64 (i + 1) = i + 1 := wr _ (by omega) (by omega)
    rw [latheref01_Read.l0, if_pos (by omega), among_loop s a i h0 (by omega) 16 (k + 1) (-1) 0 (by omega) (by omega), latheref01_Read.l1, if_neg (by omega), among_val _ hr.1 hr.2]
    simp only [rdv]
    have hv := val_lt (bt s i)
    by_cases c1 : val (bt s i) < 0
    · rw [if_pos c1, if_pos c1]
    · obtain ⟨b1, b2⟩ := bound_step a (val (bt s i)) d hb (by omega) hv ha
      rw [if_neg c1, if_neg c1, wr (a * 16) (by omega) (by omega), wr _ (by omega) (by omega), hw]
      exact ih k _ _ (by omega) (by omega) (by omega) b1 (by omega)
theorem reads_ref (k : Nat) (s : ByteArray) : latheref01_Read.f (k + 145) s = some (readv s) := by
  unfold latheref01_Read.f readv
  by_cases h : (s.size : Int) = 8
  · rw [if_pos h, if_pos h]
    exact read_loop_ref s h 8 _ 0 0 (by omega) (by omega) (by omega) (by decide) (by omega)
  · rw [if_neg h, if_neg h]
theorem rdv_range (s : ByteArray) (d : Nat) : ∀ (i a : Int), 0 ≤ a → (a + 1) * 16 ^ d ≤ 4294967296 → 0 ≤ (rdv s d i a).1 ∧ (rdv s d i a).1 ≤ 4294967295 ∧ ((rdv s d i a).2 = false → (rdv s d i a).1 = 0) := by
  induction d with
  | zero => intro i a ha hb; simp only [rdv]; simp at hb; exact ⟨ha, by omega, by simp⟩
  | succ d ih =>
    intro i a ha hb
    simp only [rdv]
    have hv := val_lt (bt s i)
    by_cases c1 : val (bt s i) < 0
    · rw [if_pos c1]; simp
    · obtain ⟨b1, b2⟩ := bound_step a (val (bt s i)) d hb (by omega) hv ha
      rw [if_neg c1]; exact ih _ _ (by omega) b1
theorem readv_range (s : ByteArray) : 0 ≤ (readv s).1 ∧ (readv s).1 ≤ 4294967295 ∧ ((readv s).2 = false → (readv s).1 = 0) := by
  unfold readv
  split
  · exact rdv_range s 8 0 0 (by omega) (by decide)
  · simp
theorem bt_strs (xs : List Int) (i : Nat) (x : Int) (h : xs[i]? = some x) (h0 : 0 ≤ x) (h1 : x ≤ 255) : bt (strOfNums xs) (i : Int) = x := by
  have hi : i < xs.length := by
    rcases Nat.lt_or_ge i xs.length with h' | h'
    · exact h'
    · rw [List.getElem?_eq_none h'] at h; cases h
  have hx : xs[i] = x := by rw [List.getElem?_eq_getElem hi] at h; exact Option.some.inj h
  unfold bt
  rw [dif_pos (by rw [strOfNums_size]; simpa using hi)]
  have : (strOfNums xs)[((i : Int)).toNat]'(by rw [strOfNums_size]; simpa using hi) = UInt8.ofNat (xs[i]).toNat := by
    simp [strOfNums, ByteArray.getElem_eq_getElem_data]
  rw [this, hx]
  simp
  omega
theorem dig_range (d : Int) (h0 : 0 ≤ d) (h1 : d < 16) : 0 ≤ dig d ∧ dig d ≤ 255 := by unfold dig; split <;> omega
theorem rdv_step (s : ByteArray) (d : Nat) (i a v : Int) (hb : bt s i = dig v) (h0 : 0 ≤ v) (h1 : v < 16) : rdv s (d + 1) i a = rdv s d (i + 1) (a * 16 + v) := by
  simp only [rdv]; rw [hb, val_dig v h0 h1, if_neg (by omega)]
theorem read_hex (a : Int) (h0 : 0 ≤ a) (h1 : a ≤ 4294967295) : readv (hexs a) = (a, true) := by
  have hz : ((hexs a).size : Int) = 8 := by unfold hexs; rw [strOfNums_size]; rfl
  unfold readv
  rw [if_pos hz]
  have b : ∀ (i : Nat) (v : Int), [dig (a / 268435456 % 16), dig (a / 16777216 % 16), dig (a / 1048576 % 16), dig (a / 65536 % 16), dig (a / 4096 % 16), dig (a / 256 % 16), dig (a / 16 % 16), dig (a % 16)][i]? = some (dig v) → 0 ≤ v → v < 16 → bt (hexs a) (i : Int) = dig v :=
    fun i v h g0 g1 => bt_strs _ i _ h (dig_range v g0 g1).1 (dig_range v g0 g1).2
  rw [rdv_step _ 7 0 _ (a / 268435456 % 16) (b 0 _ rfl (by omega) (by omega)) (by omega) (by omega)]
  rw [show ((0 : Int) + 1) = 1 from rfl]
  rw [rdv_step _ 6 1 _ (a / 16777216 % 16) (b 1 _ rfl (by omega) (by omega)) (by omega) (by omega)]
  rw [show ((1 : Int) + 1) = 2 from rfl]
  rw [rdv_step _ 5 2 _ (a / 1048576 % 16) (b 2 _ rfl (by omega) (by omega)) (by omega) (by omega)]
  rw [show ((2 : Int) + 1) = 3 from rfl]
  rw [rdv_step _ 4 3 _ (a / 65536 % 16) (b 3 _ rfl (by omega) (by omega)) (by omega) (by omega)]
  rw [show ((3 : Int) + 1) = 4 from rfl]
  rw [rdv_step _ 3 4 _ (a / 4096 % 16) (b 4 _ rfl (by omega) (by omega)) (by omega) (by omega)]
  rw [show ((4 : Int) + 1) = 5 from rfl]
  rw [rdv_step _ 2 5 _ (a / 256 % 16) (b 5 _ rfl (by omega) (by omega)) (by omega) (by omega)]
  rw [show ((5 : Int) + 1) = 6 from rfl]
  rw [rdv_step _ 1 6 _ (a / 16 % 16) (b 6 _ rfl (by omega) (by omega)) (by omega) (by omega)]
  rw [show ((6 : Int) + 1) = 7 from rfl]
  rw [rdv_step _ 0 7 _ (a % 16) (b 7 _ rfl (by omega) (by omega)) (by omega) (by omega)]
  simp only [rdv]
  congr 1
  omega
theorem rdv_true (s : ByteArray) (d : Nat) (i a : Int) (h : (rdv s (d + 1) i a).2 = true) : 0 ≤ val (bt s i) ∧ rdv s (d + 1) i a = rdv s d (i + 1) (a * 16 + val (bt s i)) := by
  simp only [rdv] at h ⊢
  by_cases c : val (bt s i) < 0
  · rw [if_pos c] at h; cases h
  · rw [if_neg c]; exact ⟨by omega, rfl⟩
theorem str_eight (s : ByteArray) (h : s.size = 8) : strOfNums [bt s 0, bt s 1, bt s 2, bt s 3, bt s 4, bt s 5, bt s 6, bt s 7] = s := by
  apply ByteArray.ext
  apply Array.ext
  · simp [strOfNums]; exact h.symm
  · intro i hi hj
    have hj' : i < s.size := hj
    have hx : ∀ (n : Nat) (hn : n < s.size), UInt8.ofNat (bt s (n : Int)).toNat = s[n] := by
      intro n hn
      unfold bt
      rw [dif_pos (by simpa using hn)]
      simp
    have e : ∀ (n : Nat) (hn : n < s.size), s.data[n]'hn = s[n] := fun n hn => rfl
    rw [e i hj', ← hx i hj']
    have : i < 8 := by omega
    rcases i with _ | _ | _ | _ | _ | _ | _ | _ | i
    all_goals first | (simp [strOfNums]; done) | omega
theorem hex_read (s : ByteArray) (h : (readv s).2 = true) : hexs (readv s).1 = s := by
  unfold readv at h ⊢
  by_cases hz : (s.size : Int) = 8
  · rw [if_pos hz] at h ⊢
    obtain ⟨p0, e0⟩ := rdv_true s 7 0 0 h
    rw [e0] at h ⊢
    obtain ⟨p1, e1⟩ := rdv_true s 6 _ _ h
    rw [e1] at h ⊢
    obtain ⟨p2, e2⟩ := rdv_true s 5 _ _ h
    rw [e2] at h ⊢
    obtain ⟨p3, e3⟩ := rdv_true s 4 _ _ h
    rw [e3] at h ⊢
    obtain ⟨p4, e4⟩ := rdv_true s 3 _ _ h
    rw [e4] at h ⊢
    obtain ⟨p5, e5⟩ := rdv_true s 2 _ _ h
    rw [e5] at h ⊢
    obtain ⟨p6, e6⟩ := rdv_true s 1 _ _ h
    rw [e6] at h ⊢
    obtain ⟨p7, e7⟩ := rdv_true s 0 _ _ h
    rw [e7] at h ⊢
    simp only [rdv]
    simp only [Int.reduceAdd, Int.zero_add, Int.zero_mul] at *
    have g0 := val_lt (bt s 0); have g1 := val_lt (bt s 1); have g2 := val_lt (bt s 2); have g3 := val_lt (bt s 3)
    have g4 := val_lt (bt s 4); have g5 := val_lt (bt s 5); have g6 := val_lt (bt s 6); have g7 := val_lt (bt s 7)
    clear h e0 e1 e2 e3 e4 e5 e6 e7
    have d0 := dig_val _ p0; have d1 := dig_val _ p1; have d2 := dig_val _ p2; have d3 := dig_val _ p3
    have d4 := dig_val _ p4; have d5 := dig_val _ p5; have d6 := dig_val _ p6; have d7 := dig_val _ p7
    conv => rhs; rw [← str_eight s (by omega)]
    generalize val (bt s 0) = v0 at *; generalize val (bt s 1) = v1 at *; generalize val (bt s 2) = v2 at *; generalize val (bt s 3) = v3 at *
    generalize val (bt s 4) = v4 at *; generalize val (bt s 5) = v5 at *; generalize val (bt s 6) = v6 at *; generalize val (bt s 7) = v7 at *
    rw [← d0, ← d1, ← d2, ← d3, ← d4, ← d5, ← d6, ← d7]
    unfold hexs
    clear d0 d1 d2 d3 d4 d5 d6 d7 hz
    congr 1
    congr 1
    · congr 1; omega
    congr 1
    · congr 1; omega
    congr 1
    · congr 1; omega
    congr 1
    · congr 1; omega
    congr 1
    · congr 1; omega
    congr 1
    · congr 1; omega
    congr 1
    · congr 1; omega
    congr 1
    · congr 1; omega
  · rw [if_neg hz] at h; cases h
end Go.Proofs.Ytjmhlmfiodhjhaa.Pure
