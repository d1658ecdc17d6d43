/- What the Lean functions of layer 10 answer: what is written is read back; the sample works. Conditions: those that each theorem names. -/
import Derived.Test.YtojlooflfojdlaaDoorSignD
namespace Go.Proofs.YtojlooflfojdlaaDoor.Pure
set_option linter.unusedVariables false
open Go.RowKit Go.Proofs.YtojlooflfojdlaaDoor.Q Go.Proofs.YtojlooflfojdlaaDoorW.PrintWords Go.Proofs.YtojlooflfojdlaaDoorW.PrintLast

theorem rprint_ev (l : List Pm) : Ev (fun k => latheref10_Print.f k l) (wr l) := by
  unfold wr
  by_cases h : chk l = 0
  · rw [if_pos h]
    have hc := h
    unfold chk at hc
    by_cases hl : l.length > 64
    · rw [if_pos hl] at hc; exact absurd hc (by decide)
    rw [if_neg hl] at hc
    by_cases hm : l.all mayB = true
    · have := rprint_l0 l (by omega) hm _ 0 ⟨#[]⟩ rfl (by omega) (by simp [ByteArray.size])
      rw [List.drop_zero, show (⟨#[]⟩ : ByteArray) ++ mk (l.flatMap sign_Print.one) = text l from dl_inj (by rw [dl_append]; rfl)] at this
      refine Ev.bind (rcheck_ev l) ?_
      rw [h]
      exact Ev.congr (fun k => if_pos rfl) this
    · rw [if_neg hm] at hc; exact absurd hc (by decide)
  · rw [if_neg h]
    exact Ev.bind (rcheck_ev l) (Ev.const fun k => if_neg h)

/-! ### read back -/
theorem nm_bytes {x : ByteArray} (h : nmB x = true) : dl x ≠ [] ∧ x.size ≤ 64 ∧ ∀ c ∈ dl x, c ≠ 32 ∧ c ≠ 10 ∧ c ≠ 35 := by
  unfold nmB at h
  simp only [Bool.and_eq_true, decide_eq_true_eq] at h
  obtain ⟨⟨h1, h2⟩, h3⟩ := h
  refine ⟨by rw [toList_data] at h1; exact h1, h2, fun c hc => ?_⟩
  have h4 : sign_name.okb (c.toNat : Int) = true := List.all_eq_true.1 h3 _ (by show _ ∈ bl x; unfold bl; exact List.mem_map.2 ⟨c, hc, rfl⟩)
  refine ⟨?_, ?_, ?_⟩ <;> (rintro rfl; revert h4; decide)
theorem dig_bytes {l : List UInt8} (h : l.all dig = true) : (32 : UInt8) ∉ l ∧ (10 : UInt8) ∉ l :=
  ⟨fun hc => absurd (List.all_eq_true.1 h _ hc) (by decide), fun hc => absurd (List.all_eq_true.1 h _ hc) (by decide)⟩
theorem linez_spl (p : Pm) (hp : mayB p = true) : lineL (spl 32 (linez p)) = some p ∧ (10 : UInt8) ∉ linez p ∧ ¬ (linez p = [] ∨ (linez p).head? = some 35) ∧ (linez p).length ≤ 99 := by
  obtain ⟨hn, hk, h1, h2⟩ := may_bd hp
  obtain ⟨a, b, c⟩ := p
  simp only at hn hk h1 h2
  obtain ⟨m, rfl⟩ : ∃ m : Nat, c = m := ⟨c.toNat, by omega⟩
  obtain ⟨hne, hsz, hb⟩ := nm_bytes hn
  obtain ⟨_, hd, _, _⟩ := dec_props m
  obtain ⟨d1, d2⟩ := dig_bytes hd
  have hdl := dec_len (u := m) (by omega)
  have hal := dl_length a
  unfold linez
  simp only
  rw [itoa_nat]
  have n1 : (32 : UInt8) ∉ dl a := fun h => (hb _ h).1 rfl
  have n2 : (10 : UInt8) ∉ dl a := fun h => (hb _ h).2.1 rfl
  have hhd : ∀ r : List UInt8, ¬ (dl a ++ r = [] ∨ (dl a ++ r).head? = some 35) := by
    intro r
    cases e : dl a with
    | nil => exact absurd e hne
    | cons x xs =>
      rintro (e2 | e2)
      · cases e2
      · have : x = 35 := by simpa using e2
        exact (hb x (by rw [e]; exact List.mem_cons_self)).2.2 this
  have fin1 : ∀ (kd : List UInt8) (kn : Int), b = kn → (32 : UInt8) ∉ kd → (10 : UInt8) ∉ kd → kd.length ≤ 7 → dl (sign_Print.kind b) = 32 :: kd ++ [32] → lineL [dl a, kd, Lib.decDigits m] = some ⟨mk (dl a), kn, (m : Int)⟩ → lineL (spl 32 (dl a ++ dl (sign_Print.kind b) ++ Lib.decDigits m)) = some ⟨a, b, (m : Int)⟩ ∧ (10 : UInt8) ∉ dl a ++ dl (sign_Print.kind b) ++ Lib.decDigits m ∧ ¬ (dl a ++ dl (sign_Print.kind b) ++ Lib.decDigits m = [] ∨ (dl a ++ dl (sign_Print.kind b) ++ Lib.decDigits m).head? = some 35) ∧ (dl a ++ dl (sign_Print.kind b) ++ Lib.decDigits m).length ≤ 99 := by
    intro kd kn hbk k1 k2 k3 hkk hli
    rw [hkk]
    refine ⟨?_, ?_, ?_, ?_⟩
    · rw [show dl a ++ (32 :: kd ++ [32]) ++ Lib.decDigits m = dl a ++ 32 :: (kd ++ 32 :: Lib.decDigits m) from by simp, spl_app _ n1, spl_app _ k1, spl_none d1, hli, mk_dl, hbk]
    · simp only [List.mem_append, List.mem_cons, List.not_mem_nil, or_false]
      rintro ((h | (h | h) | h) | h)
      · exact n2 h
      · exact absurd h (by decide)
      · exact k2 h
      · exact absurd h (by decide)
      · exact d2 h
    · rw [List.append_assoc]; exact hhd _
    · simp only [List.length_append, List.length_cons, List.length_nil]; omega
  rcases hk with rfl | rfl
  · refine fin1 [114, 101, 97, 108] 1 rfl (by decide) (by decide) (by decide) rfl ?_
    rw [lineL, if_pos rfl, numz_dec (by omega) (by omega), Option.bind_some, mk_dl, if_pos hn]
  · refine fin1 [99, 111, 109, 112, 108, 101, 120] 2 rfl (by decide) (by decide) (by decide) rfl ?_
    rw [lineL, if_neg (by decide), if_pos rfl, numz_dec (by omega) (by omega), Option.bind_some, mk_dl, if_pos hn]
theorem text_spl : ∀ (l : List Pm), l.all mayB = true → spl 10 (l.flatMap sign_Print.one) = l.map linez ++ [[]]
  | [], _ => rfl
  | p :: l, h => by
    simp only [List.all_cons, Bool.and_eq_true] at h
    rw [List.flatMap_cons, one_linez, List.append_assoc, List.singleton_append, spl_app _ (linez_spl p h.1).2.1, text_spl l h.2]
    rfl
theorem eat_text : ∀ (l acc : List Pm) (n : Nat), l.all mayB = true → eat acc n (l.map linez ++ [[]]) = fin (acc ++ l)
  | [], acc, n, _ => by
    rw [List.map_nil, List.nil_append, eat_skip (.inl rfl), eat, List.append_nil]
  | p :: l, acc, n, h => by
    simp only [List.all_cons, Bool.and_eq_true] at h
    obtain ⟨h1, _, h3, _⟩ := linez_spl p h.1
    rw [List.map_cons, List.cons_append, eat_some h3 h1, eat_text l _ _ h.2, List.append_assoc]
    rfl
theorem text_size : ∀ (l : List Pm), l.all mayB = true → (l.flatMap sign_Print.one).length ≤ 100 * l.length
  | [], _ => by simp
  | p :: l, h => by
    simp only [List.all_cons, Bool.and_eq_true] at h
    have := text_size l h.2
    have h2 := (linez_spl p h.1).2.2.2
    rw [List.flatMap_cons, one_linez]
    simp only [List.length_append, List.length_cons, List.length_nil]
    omega
theorem chk_zero {l : List Pm} (h : chk l = 0) : l.length ≤ 64 ∧ l.all mayB = true := by
  unfold chk at h
  by_cases hl : l.length > 64
  · rw [if_pos hl] at h; exact absurd h (by decide)
  rw [if_neg hl] at h
  by_cases hm : l.all mayB = true
  · exact ⟨by omega, hm⟩
  · rw [if_neg hm] at h; exact absurd h (by decide)
theorem back (l : List Pm) (h : chk l = 0) : readP (text l) = (l, 0, 0) := by
  obtain ⟨h1, h2⟩ := chk_zero h
  have h3 := text_size l h2
  have h4 : (text l).size = (l.flatMap sign_Print.one).length := by rw [← dl_length]; rfl
  unfold readP
  rw [if_neg (by omega), show dl (text l) = l.flatMap sign_Print.one from rfl, text_spl l h2, eat_text l [] 0 h2, List.nil_append]
  unfold fin
  rw [if_pos h]

/-! ### the sample -/
def smp : List Pm := [⟨mk [119], 1, 3⟩, ⟨mk [98, 47, 99], 2, 2⟩]
theorem nmB_eq (x : ByteArray) (h1 : dl x ≠ []) (h2 : (dl x).length ≤ 64) (h3 : ((dl x).map fun c => (c.toNat : Int)).all sign_name.okb = true) : nmB x = true := by
  unfold nmB
  rw [toList_data, decide_eq_true h1, decide_eq_true (by rw [← dl_length]; exact h2), Bool.true_and, Bool.true_and]
  exact h3
theorem nm1 : nmB (mk [119]) = true := nmB_eq _ (by decide) (by decide) (by decide)
theorem nm2 : nmB (mk [98, 47, 99]) = true := nmB_eq _ (by decide) (by decide) (by decide)
theorem smp_may : smp.all mayB = true := by
  unfold smp
  simp only [List.all_cons, List.all_nil, Bool.and_true]
  rw [may_of _ 1 3 (.inl rfl) (by decide) (by decide), may_of _ 2 2 (.inr rfl) (by decide) (by decide), nm1, nm2]
  rfl
theorem smp_tot : totF smp 0 = 7 := by
  unfold totF smp numB
  simp only [List.foldl_cons, List.foldl_nil]
  rw [may_of _ 1 3 (.inl rfl) (by decide) (by decide), may_of _ 2 2 (.inr rfl) (by decide) (by decide), nm1, nm2, if_pos rfl, if_pos rfl, if_neg (by decide), if_pos trivial]
  unfold wrap64
  omega
theorem smp_chk : chk smp = 0 := by
  unfold chk
  rw [if_neg (by decide), if_pos smp_may, if_pos (by decide), smp_tot, if_neg (by decide)]
theorem smp_twice : chk (smp ++ [⟨(rd_T39 smp 0).f0, (rd_T39 smp 0).f1, (rd_T39 smp 0).f2⟩]) = 101 := by
  unfold chk
  rw [if_neg (by decide), if_pos ?_, if_neg (by decide)]
  rw [List.all_append, smp_may, Bool.true_and, List.all_cons, List.all_nil, Bool.and_true]
  exact List.all_eq_true.1 smp_may _ List.mem_cons_self
theorem smp_text : (text smp).toList = [119, 32, 114, 101, 97, 108, 32, 51, 10, 98, 47, 99, 32, 99, 111, 109, 112, 108, 101, 120, 32, 50, 10] := by
  rw [toList_data]
  show smp.flatMap sign_Print.one = _
  have e1 : sign_Print.one ⟨mk [119], 1, 3⟩ = [119, 32, 114, 101, 97, 108, 32, 51, 10] := by
    rw [one_linez]; unfold linez; simp only
    rw [show (3 : Int) = ((3 : Nat) : Int) from rfl, itoa_nat, Lib.decDigits_one (by decide)]; rfl
  have e2 : sign_Print.one ⟨mk [98, 47, 99], 2, 2⟩ = [98, 47, 99, 32, 99, 111, 109, 112, 108, 101, 120, 32, 50, 10] := by
    rw [one_linez]; unfold linez; simp only
    rw [show (2 : Int) = ((2 : Nat) : Int) from rfl, itoa_nat, Lib.decDigits_one (by decide)]; rfl
  unfold smp
  rw [List.flatMap_cons, List.flatMap_cons, e1, e2]
  rfl
def smpT : ByteArray := ⟨#[35, 32, 116, 119, 111, 10, 119, 32, 114, 101, 97, 108, 32, 51, 10, 10, 98, 47, 99, 32, 99, 111, 109, 112, 108, 101, 120, 32, 50]⟩
theorem smp_read : readP smpT = (smp, 0, 0) := by
  unfold readP
  rw [if_neg (by decide)]
  have e0 : spl 10 (dl smpT) = [[35, 32, 116, 119, 111], [119, 32, 114, 101, 97, 108, 32, 51], [], [98, 47, 99, 32, 99, 111, 109, 112, 108, 101, 120, 32, 50]] := by decide
  have e1 : spl 32 [119, 32, 114, 101, 97, 108, 32, 51] = [[119], [114, 101, 97, 108], [51]] := by decide
  have e2 : spl 32 [98, 47, 99, 32, 99, 111, 109, 112, 108, 101, 120, 32, 50] = [[98, 47, 99], [99, 111, 109, 112, 108, 101, 120], [50]] := by decide
  have d3 : Lib.decDigits 3 = [51] := by rw [Lib.decDigits_one (by decide)]; rfl
  have d2 : Lib.decDigits 2 = [50] := by rw [Lib.decDigits_one (by decide)]; rfl
  have n3 := numz_dec (m := 3) (by decide) (by decide)
  have n2 := numz_dec (m := 2) (by decide) (by decide)
  rw [d3] at n3
  rw [d2] at n2
  have l1 : lineL (spl 32 [119, 32, 114, 101, 97, 108, 32, 51]) = some ⟨mk [119], 1, 3⟩ := by
    rw [e1, lineL, if_pos rfl, n3, Option.bind_some, if_pos nm1]; rfl
  have l2 : lineL (spl 32 [98, 47, 99, 32, 99, 111, 109, 112, 108, 101, 120, 32, 50]) = some ⟨mk [98, 47, 99], 2, 2⟩ := by
    rw [e2, lineL, if_neg (by decide), if_pos rfl, n2, Option.bind_some, if_pos nm2]; rfl
  rw [e0, eat_skip (.inr rfl), eat_some (by decide) l1, eat_skip (.inl rfl), eat_some (by decide) l2, eat]
  show fin smp = _
  unfold fin
  rw [if_pos smp_chk]
theorem works_ev : Ev (fun k => lathelaw10_works.f k) true := by
  obtain ⟨K1, h1⟩ := parse_ev smpT
  obtain ⟨K2, h2⟩ := print_ev smp
  obtain ⟨K3, h3⟩ := total_ev smp (by decide)
  obtain ⟨K4, h4⟩ := check_ev (smp ++ [⟨(rd_T39 smp 0).f0, (rd_T39 smp 0).f1, (rd_T39 smp 0).f2⟩])
  refine ⟨K1 + K2 + K3 + K4, fun k hk => ?_⟩
  have g1 := h1 k (by omega)
  have g2 := h2 k (by omega)
  have g3 := h3 k (by omega)
  have g4 := h4 k (by omega)
  rw [smp_read] at g1
  unfold wr at g2
  rw [if_pos smp_chk] at g2
  rw [smp_tot] at g3
  rw [smp_twice] at g4
  show lathelaw10_works.f k = some true
  unfold lathelaw10_works.f
  rw [show (⟨#[35, 32, 116, 119, 111, 10, 119, 32, 114, 101, 97, 108, 32, 51, 10, 10, 98, 47, 99, 32, 99, 111, 109, 112, 108, 101, 120, 32, 50]⟩ : ByteArray) = smpT from rfl, show sign_Parse.f k smpT = some (smp, 0, 0) from g1, Option.bind_some]
  rw [show sign_Print.f k (smp, (0 : Int), (0 : Int)).1 = some (text smp, 0) from g2, Option.bind_some, if_pos (by decide), if_pos rfl, if_pos rfl, if_pos smp_text, if_pos rfl, show sign_Total.f k (smp, (0 : Int), (0 : Int)).1 = some 7 from g3, Option.bind_some, if_pos rfl, if_pos (by decide), if_pos (by decide)]
  rw [show sign_Check.f k ((smp, (0 : Int), (0 : Int)).1 ++ [(⟨(rd_T39 (smp, (0 : Int), (0 : Int)).1 0).f0, (rd_T39 (smp, (0 : Int), (0 : Int)).1 0).f1, (rd_T39 (smp, (0 : Int), (0 : Int)).1 0).f2⟩ : Pm)]) = some 101 from g4, Option.bind_some]
  rfl
end Go.Proofs.YtojlooflfojdlaaDoor.Pure
