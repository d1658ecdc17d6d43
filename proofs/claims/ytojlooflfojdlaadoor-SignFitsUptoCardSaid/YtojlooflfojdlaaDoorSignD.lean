/- What the Lean functions of layer 10 answer: whole texts read and written. Conditions: those that each theorem names. -/
import Derived.Test.YtojlooflfojdlaaDoorSignC
namespace Go.Proofs.YtojlooflfojdlaaDoor.Pure
set_option linter.unusedVariables false
open Go.RowKit Go.Proofs.YtojlooflfojdlaaDoor.Q Go.Proofs.YtojlooflfojdlaaDoorW.PrintWords Go.Proofs.YtojlooflfojdlaaDoorW.PrintLast

/-! ### a text is read -/
def fin (acc : List Pm) : List Pm × Int × Int := if chk acc = 0 then (acc, 0, 0) else ([], chk acc, 0)
def eat : List Pm → Nat → List (List UInt8) → List Pm × Int × Int
  | acc, _, [] => fin acc
  | acc, n, s :: ss => if s = [] ∨ s.head? = some 35 then eat acc (n + 1) ss else match lineL (spl 32 s) with
    | some p => eat (acc ++ [p]) (n + 1) ss
    | none => ([], 250, ((n + 1 : Nat) : Int))
theorem eat_skip {acc : List Pm} {n : Nat} {s : List UInt8} {ss : List (List UInt8)} (h : s = [] ∨ s.head? = some 35) : eat acc n (s :: ss) = eat acc (n + 1) ss := by rw [eat, if_pos h]
theorem eat_some {acc : List Pm} {n : Nat} {s : List UInt8} {ss : List (List UInt8)} {p : Pm} (h : ¬ (s = [] ∨ s.head? = some 35)) (hl : lineL (spl 32 s) = some p) : eat acc n (s :: ss) = eat (acc ++ [p]) (n + 1) ss := by rw [eat, if_neg h, hl]
theorem eat_none {acc : List Pm} {n : Nat} {s : List UInt8} {ss : List (List UInt8)} (h : ¬ (s = [] ∨ s.head? = some 35)) (hl : lineL (spl 32 s) = none) : eat acc n (s :: ss) = ([], 250, ((n + 1 : Nat) : Int)) := by rw [eat, if_neg h, hl]
theorem head_bt (s : ByteArray) (h : dl s ≠ []) : 0 < s.size ∧ ((bt s 0 == 35) = true ↔ (dl s).head? = some 35) := by
  have h0 : 0 < s.size := by
    rcases Nat.eq_zero_or_pos s.size with e | e
    · exact absurd (List.length_eq_zero_iff.1 (by rw [dl_length]; exact e)) h
    · exact e
  obtain ⟨c, h3, h4⟩ := bt_dl s 0 h0
  rw [List.drop_zero] at h3
  refine ⟨h0, ?_⟩
  rw [h3, show (0 : Int) = ((0 : Nat) : Int) from rfl, h4, beq_iff_eq]
  constructor
  · intro e
    have : c = 35 := UInt8.toNat_inj.1 (by have : (35 : UInt8).toNat = 35 := rfl; omega)
    rw [this]; rfl
  · intro e
    have : c = 35 := by simpa using e
    rw [this]; rfl
theorem fin_sign (acc : List Pm) : Ev (fun k => (sign_Check.f k acc).bind fun t => if t = 0 then (some (acc, (0 : Int), (0 : Int))) else (some (([] : List Pm), t, (0 : Int)))) (fin acc) :=
  Ev.bind (check_ev acc) (Ev.const fun _ => by unfold fin; split <;> rfl)
theorem fin_ref (acc : List Pm) : Ev (fun k => (latheref10_Check.f k acc).bind fun t => if t = 0 then (some (acc, (0 : Int), (0 : Int))) else (some (([] : List Pm), t, (0 : Int)))) (fin acc) :=
  Ev.bind (rcheck_ev acc) (Ev.const fun _ => by unfold fin; split <;> rfl)
theorem parse_l0 (L : List ByteArray) (hL : L.length ≤ 1000000) (hs : ∀ s ∈ L, s.size ≤ 1000000) : ∀ (d i : Nat) (acc : List Pm), L.length - i = d → i ≤ L.length → acc.length ≤ i → Ev (fun k => sign_Parse.l0 k acc L (L.length : Int) (i : Int)) (eat acc i ((L.map dl).drop i)) := by
  intro d
  induction d with
  | zero =>
    intro i acc h hi ha
    rw [List.drop_of_length_le (by simp; omega), eat]
    refine Ev.step (fun k => ?_) (fin_sign acc)
    rw [sign_Parse.l0, if_neg (by omega)]
  | succ d ih =>
    intro i acc h hi ha
    have hlt : i < L.length := by omega
    have hr : rdOf ByteArray.empty L (i : Int) = L[i] := by simp [rdOf, List.getElem?_eq_getElem hlt]
    have hd : (L.map dl).drop i = dl L[i] :: (L.map dl).drop (i + 1) := by
      rw [List.drop_eq_getElem_cons (by simpa using hlt)]; simp
    rw [hd]
    have hsz := hs L[i] (List.getElem_mem hlt)
    have go : ∀ b : Bool, (b = true ↔ (dl L[i] = [] ∨ (dl L[i]).head? = some 35)) → Ev (fun k => sign_Parse.j1 k acc (i : Int) L[i] L (L.length : Int) (i : Int) b) (eat acc i (dl L[i] :: (L.map dl).drop (i + 1))) := by
      intro b hb
      cases b with
      | true =>
        rw [eat_skip (hb.1 rfl)]
        refine Ev.step (fun k => ?_) (ih (i + 1) acc (by omega) (by omega) (by omega))
        rw [sign_Parse.j1, if_pos rfl, wr64 _ (by omega) (by omega)]
        rfl
      | false =>
        have hn : ¬ (dl L[i] = [] ∨ (dl L[i]).head? = some 35) := fun e => Bool.noConfusion (hb.2 e)
        obtain ⟨r, h1, h2⟩ := line_eq L[i] (by omega)
        cases hl : lineL (spl 32 (dl L[i])) with
        | none =>
          rw [eat_none hn hl]
          rw [hl] at h2
          have hf : ¬ r.2.2.2 = true := fun e => by unfold res at h2; rw [if_pos e] at h2; cases h2
          refine Ev.one fun k => ?_
          rw [sign_Parse.j1, if_neg (by decide), h1, Option.bind_some, if_neg hf, wr64 _ (by omega) (by omega)]
          rfl
        | some p =>
          rw [eat_some hn hl]
          rw [hl] at h2
          have ht : r.2.2.2 = true := by
            unfold res at h2
            by_cases e : r.2.2.2 = true
            · exact e
            · rw [if_neg e] at h2; cases h2
          have hp : (⟨r.1, r.2.1, r.2.2.1⟩ : Pm) = p := by unfold res at h2; rw [if_pos ht] at h2; exact Option.some.inj h2
          refine Ev.step (fun k => ?_) (ih (i + 1) (acc ++ [p]) (by omega) (by omega) (by simp; omega))
          rw [sign_Parse.j1, if_neg (by decide), h1, Option.bind_some, if_pos ht, if_pos (by omega), wr64 _ (by omega) (by omega), hp]
          rfl
    by_cases he : dl L[i] = []
    · refine Ev.step (fun k => ?_) (go true ⟨fun _ => .inl he, fun _ => rfl⟩)
      rw [sign_Parse.l0, if_pos (by omega), if_pos (by omega), if_pos (by omega), hr, if_pos (by rw [toList_data]; exact he)]
    · obtain ⟨h0, hb⟩ := head_bt L[i] he
      refine Ev.step (fun k => ?_) (go (bt L[i] 0 == 35) ⟨fun e => .inr (hb.1 e), fun e => hb.2 (e.resolve_left he)⟩)
      rw [sign_Parse.l0, if_pos (by omega), if_pos (by omega), if_pos (by omega), hr, if_neg (by rw [toList_data]; exact he), if_pos (by omega)]
def readP (s : ByteArray) : List Pm × Int × Int := if s.size > 65536 then ([], 2, 0) else eat [] 0 (spl 10 (dl s))
theorem parse_ev (s : ByteArray) : Ev (fun k => sign_Parse.f k s) (readP s) := by
  unfold readP sign_Parse.f
  by_cases h : s.size > 65536
  · exact Ev.const fun k => by rw [if_pos (by omega), if_pos h]
  · rw [if_neg h]
    refine Ev.congr (fun k => if_neg (by omega)) ?_
    have hm := splitB_spl s 10
    have hle := splitB_le ⟨#[10]⟩ (Lib.countB s ⟨#[10]⟩) s
    have hsp : strings_Split.f s (⟨#[10]⟩ : ByteArray) = some (Lib.splitB ⟨#[10]⟩ 0 (Lib.countB s ⟨#[10]⟩) s) := by
      unfold strings_Split.f
      rw [if_pos (by omega), if_pos (show 1 ≤ (⟨#[10]⟩ : ByteArray).size from Nat.le_refl _)]
    rw [hsp]
    generalize Lib.splitB ⟨#[10]⟩ 0 (Lib.countB s ⟨#[10]⟩) s = L at hm hle ⊢
    have hlen : L.length ≤ 1000000 := by
      have h1 := congrArg List.length hm
      have h2 := spl_size 10 (dl s)
      rw [List.length_map] at h1
      rw [dl_length] at h2
      omega
    have := parse_l0 L hlen (fun x hx => by have := hle x hx; omega) _ 0 [] rfl (by omega) (by simp)
    rw [List.drop_zero, hm] at this
    exact this
theorem rparse_end (s : ByteArray) (hs : s.size ≤ 65536) (acc : List Pm) (f n : Int) : Ev (fun k => latheref10_Parse.l0 k s acc f n ((s.size + 1 : Nat) : Int)) (fin acc) := by
  refine Ev.step (fun k => ?_) (fin_ref acc)
  rw [latheref10_Parse.l0, if_neg (by omega)]
theorem rparse_line (s : ByteArray) (hs : s.size ≤ 65536) (acc : List Pm) (f n i : Nat) (hf : f ≤ i) (hi : i ≤ s.size) (ha : acc.length ≤ n) (hn : n ≤ i) (R : List (List UInt8))
    (next : ∀ acc' : List Pm, acc'.length ≤ n + 1 → Ev (fun k => latheref10_Parse.l0 k s acc' ((i + 1 : Nat) : Int) ((n + 1 : Nat) : Int) ((i + 1 : Nat) : Int)) (eat acc' (n + 1) R)) :
    Ev (fun k => latheref10_Parse.j1 k s acc (f : Int) (n : Int) (i : Int) false) (eat acc n (((dl s).take i).drop f :: R)) := by
  have he : dl (s.extract f i) = ((dl s).take i).drop f := dl_extract s f i
  have hsz : (s.extract f i).size ≤ 65536 := by rw [ByteArray.size_extract]; omega
  rw [← he]
  have go : ∀ b : Bool, (b = true ↔ (dl (s.extract f i) = [] ∨ (dl (s.extract f i)).head? = some 35)) → Ev (fun k => latheref10_Parse.j2 k s acc ((i + 1 : Nat) : Int) ((n + 1 : Nat) : Int) (i : Int) (s.extract f i) b) (eat acc n (dl (s.extract f i) :: R)) := by
    intro b hb
    cases b with
    | true =>
      rw [eat_skip (hb.1 rfl)]
      refine Ev.step (fun k => ?_) (next acc (by omega))
      rw [latheref10_Parse.j2, if_pos rfl, wr64 _ (by omega) (by omega)]
      rfl
    | false =>
      have hnn : ¬ (dl (s.extract f i) = [] ∨ (dl (s.extract f i)).head? = some 35) := fun e => Bool.noConfusion (hb.2 e)
      obtain ⟨r, h1, h2⟩ := rline_ev (s.extract f i) (by omega)
      cases hl : lineL (spl 32 (dl (s.extract f i))) with
      | none =>
        rw [eat_none hnn hl]
        rw [hl] at h2
        have hff : ¬ r.2.2.2 = true := fun e => by unfold res at h2; rw [if_pos e] at h2; cases h2
        refine Ev.step (f := fun k => (latheref10_Line.f k (s.extract f i)).bind fun b => if b.2.2.2 = true then (if acc.length < 4398046511104 then latheref10_Parse.l0 k s (acc ++ [(⟨b.1, b.2.1, b.2.2.1⟩ : Pm)]) ((i + 1 : Nat) : Int) ((n + 1 : Nat) : Int) (wrap64 ((i : Int) + 1)) else none) else some ([], 250, ((n + 1 : Nat) : Int))) (fun k => ?_) (Ev.bind h1 (Ev.const fun k => if_neg hff))
        rw [latheref10_Parse.j2, if_neg (by decide)]
      | some p =>
        rw [eat_some hnn hl]
        rw [hl] at h2
        have ht : r.2.2.2 = true := by
          unfold res at h2
          by_cases e : r.2.2.2 = true
          · exact e
          · rw [if_neg e] at h2; cases h2
        have hp : (⟨r.1, r.2.1, r.2.2.1⟩ : Pm) = p := by unfold res at h2; rw [if_pos ht] at h2; exact Option.some.inj h2
        refine Ev.step (f := fun k => (latheref10_Line.f k (s.extract f i)).bind fun b => if b.2.2.2 = true then (if acc.length < 4398046511104 then latheref10_Parse.l0 k s (acc ++ [(⟨b.1, b.2.1, b.2.2.1⟩ : Pm)]) ((i + 1 : Nat) : Int) ((n + 1 : Nat) : Int) (wrap64 ((i : Int) + 1)) else none) else some ([], 250, ((n + 1 : Nat) : Int))) (fun k => ?_) (Ev.bind h1 (Ev.congr (fun k => ?_) (next (acc ++ [p]) (by simp; omega))))
        · rw [latheref10_Parse.j2, if_neg (by decide)]
        · rw [if_pos ht, if_pos (by omega), wr64 _ (by omega) (by omega), hp]
          rfl
  have go2 : Ev (fun k => if (s.extract f i).toList = ([] : List UInt8) then latheref10_Parse.j2 k s acc ((i + 1 : Nat) : Int) ((n + 1 : Nat) : Int) (i : Int) (s.extract f i) true else if 0 < ((s.extract f i).size : Int) then latheref10_Parse.j2 k s acc ((i + 1 : Nat) : Int) ((n + 1 : Nat) : Int) (i : Int) (s.extract f i) (bt (s.extract f i) 0 == 35) else none) (eat acc n (dl (s.extract f i) :: R)) := by
    by_cases hee : dl (s.extract f i) = []
    · exact Ev.congr (fun k => if_pos (by rw [toList_data]; exact hee)) (go true ⟨fun _ => .inl hee, fun _ => rfl⟩)
    · obtain ⟨h0, hb⟩ := head_bt (s.extract f i) hee
      exact Ev.congr (fun k => by rw [if_neg (by rw [toList_data]; exact hee), if_pos (by omega)]) (go (bt (s.extract f i) 0 == 35) ⟨fun e => .inr (hb.1 e), fun e => hb.2 (e.resolve_left hee)⟩)
  refine Ev.step (fun k => ?_) go2
  rw [latheref10_Parse.j1, if_neg (by decide), if_pos (by omega), if_pos (by omega), if_pos (by omega), wr64 ((i : Int) + 1) (by omega) (by omega), wr64 ((n : Int) + 1) (by omega) (by omega), Int.toNat_natCast, Int.toNat_natCast]
  rfl
theorem rparse_l0 (s : ByteArray) (hs : s.size ≤ 65536) : ∀ (d i f n : Nat) (acc : List Pm), s.size - i = d → f ≤ i → i ≤ s.size → acc.length ≤ n → n ≤ i → Ev (fun k => latheref10_Parse.l0 k s acc (f : Int) (n : Int) (i : Int)) (eat acc n (glue (((dl s).take i).drop f) (spl 10 ((dl s).drop i)))) := by
  intro d
  induction d with
  | zero =>
    intro i f n acc h hf hi ha hn
    have hin : i = s.size := by omega
    rw [show (dl s).drop i = [] from List.drop_of_length_le (by rw [dl_length]; omega), spl_nil]
    have hg : glue (((dl s).take i).drop f) [[]] = [((dl s).take i).drop f] := by simp [glue]
    rw [hg]
    by_cases hfi : f = s.size
    · have hp : ((dl s).take i).drop f = [] := List.drop_of_length_le (by rw [List.length_take, dl_length]; omega)
      rw [hp, eat_skip (.inl rfl), eat]
      refine Ev.step (f := fun k => latheref10_Parse.j1 k s acc (f : Int) (n : Int) (i : Int) true) (fun k => ?_) (Ev.step (fun k => ?_) (rparse_end s hs acc (f : Int) (n : Int)))
      · rw [latheref10_Parse.l0, if_pos (by omega), if_neg (by omega), if_pos (by omega), show ((f : Int) == (s.size : Int)) = true from beq_iff_eq.2 (by omega)]
      · rw [latheref10_Parse.j1, if_pos rfl, wr64 _ (by omega) (by omega), hin]
        rfl
    · refine Ev.step (f := fun k => latheref10_Parse.j1 k s acc (f : Int) (n : Int) (i : Int) false) (fun k => ?_) (rparse_line s hs acc f n i hf hi ha hn [] (fun acc' _ => by rw [hin, eat]; exact rparse_end s hs acc' _ _))
      rw [latheref10_Parse.l0, if_pos (by omega), if_neg (by omega), if_pos (by omega), show ((f : Int) == (s.size : Int)) = false from beq_eq_false_iff_ne.2 (by omega)]
  | succ d ih =>
    intro i f n acc h hf hi ha hn
    obtain ⟨c, h1, h2⟩ := bt_dl s i (by omega)
    have htk : (dl s).take (i + 1) = (dl s).take i ++ [c] := by
      rw [List.take_add_one]
      have : (dl s)[i]? = some c := by rw [← List.head?_drop, h1]; rfl
      rw [this]; rfl
    have hln : ((dl s).take i).length = i := by rw [List.length_take, dl_length]; omega
    rw [h1]
    by_cases hc : c = 10
    · subst hc
      rw [glue_hit]
      refine Ev.step (f := fun k => latheref10_Parse.j1 k s acc (f : Int) (n : Int) (i : Int) false) (fun k => ?_) (rparse_line s hs acc f n i hf hi ha hn _ (fun acc' ha' => by
        have := ih (i + 1) (i + 1) (n + 1) acc' (by omega) (by omega) (by omega) ha' (by omega)
        rw [List.drop_of_length_le (by rw [List.length_take, dl_length]; omega), glue_nil] at this
        exact this))
      rw [latheref10_Parse.l0, if_pos (by omega), if_pos (by omega), if_pos (by omega), h2, if_pos (show ((UInt8.toNat 10 : Nat) : Int) = 10 from rfl), if_neg (by omega)]
    · rw [glue_miss hc]
      have := ih (i + 1) f n acc (by omega) (by omega) (by omega) ha (by omega)
      rw [htk, List.drop_append_of_le_length (by omega)] at this
      refine Ev.step (f := fun k => latheref10_Parse.j1 k s acc (f : Int) (n : Int) (i : Int) true) (fun k => ?_) (Ev.step (fun k => ?_) this)
      · rw [latheref10_Parse.l0, if_pos (by omega), if_pos (by omega), if_pos (by omega), h2, if_neg (fun e => hc (UInt8.toNat_inj.1 (by have : (10 : UInt8).toNat = 10 := rfl; omega)))]
      · rw [latheref10_Parse.j1, if_pos rfl, wr64 _ (by omega) (by omega)]
        rfl
theorem rparse_ev (s : ByteArray) : Ev (fun k => latheref10_Parse.f k s) (readP s) := by
  unfold readP latheref10_Parse.f
  by_cases h : s.size > 65536
  · exact Ev.const fun k => by rw [if_pos (by omega), if_pos h]
  · rw [if_neg h]
    refine Ev.congr (fun k => if_neg (by omega)) ?_
    have := rparse_l0 s (by omega) _ 0 0 0 [] rfl (by omega) (by omega) (by simp) (by omega)
    simp only [List.take_zero, List.drop_zero, List.drop_nil, glue_nil] at this
    exact this
/-- What is read has few parameters, and may be where there is no error. -/
theorem eat_props : ∀ (ss : List (List UInt8)) (acc : List Pm) (n : Nat), (eat acc n ss).1.length ≤ acc.length + ss.length ∧ ((eat acc n ss).2.1 = 0 → chk (eat acc n ss).1 = 0 ∧ (eat acc n ss).2.2 = 0) ∧ ((eat acc n ss).2.1 ≠ 0 → (eat acc n ss).1 = [])
  | [], acc, n => by
    rw [eat]
    unfold fin
    by_cases h : chk acc = 0
    · rw [if_pos h]; exact ⟨by simp, fun _ => ⟨h, rfl⟩, fun e => absurd rfl e⟩
    · rw [if_neg h]; exact ⟨by simp, fun e => absurd e h, fun _ => rfl⟩
  | s :: ss, acc, n => by
    by_cases h : s = [] ∨ s.head? = some 35
    · rw [eat_skip h]
      have := eat_props ss acc (n + 1)
      exact ⟨by simp only [List.length_cons]; omega, this.2⟩
    · cases hl : lineL (spl 32 s) with
      | none => rw [eat_none h hl]; exact ⟨by simp, fun e => absurd (show (250 : Int) = 0 from e) (by decide), fun _ => rfl⟩
      | some p =>
        rw [eat_some h hl]
        have := eat_props ss (acc ++ [p]) (n + 1)
        refine ⟨by simp only [List.length_append, List.length_cons, List.length_nil] at this ⊢; omega, this.2⟩
theorem readP_props (s : ByteArray) : (readP s).1.length ≤ 1000000 ∧ ((readP s).2.1 = 0 → chk (readP s).1 = 0 ∧ (readP s).2.2 = 0) ∧ ((readP s).2.1 ≠ 0 → (readP s).1 = []) := by
  unfold readP
  by_cases h : s.size > 65536
  · rw [if_pos h]; exact ⟨by simp, fun e => absurd e (by decide), fun _ => rfl⟩
  · rw [if_neg h]
    have h1 := eat_props (spl 10 (dl s)) [] 0
    have h2 := spl_size 10 (dl s)
    rw [dl_length] at h2
    simp only [List.length_nil] at h1
    exact ⟨by omega, h1.2⟩

/-! ### a signature is written -/
def linez (p : Pm) : List UInt8 := dl p.f0 ++ dl (sign_Print.kind p.f1) ++ Lib.itoa p.f2
theorem one_linez (p : Pm) : sign_Print.one p = linez p ++ [10] := rfl
def text (l : List Pm) : ByteArray := ⟨(l.flatMap sign_Print.one).toArray⟩
def wr (l : List Pm) : ByteArray × Int := if chk l = 0 then (text l, 0) else (⟨#[]⟩, chk l)
theorem print_ev (l : List Pm) : Ev (fun k => sign_Print.f k l) (wr l) :=
  Ev.bind (check_ev l) (Ev.const fun _ => by unfold wr; split <;> rfl)
theorem lit10 (n : Nat) (h : n < 10) : (⟨#[48, 49, 50, 51, 52, 53, 54, 55, 56, 57]⟩ : ByteArray).extract n (n + 1) = mk [UInt8.ofNat (48 + n)] := by
  apply dl_inj
  rw [dl_extract, dl_mk]
  have h2 : ∀ n : Fin 10, ((dl (⟨#[48, 49, 50, 51, 52, 53, 54, 55, 56, 57]⟩ : ByteArray)).take (n.val + 1)).drop n.val = [UInt8.ofNat (48 + n.val)] := by decide
  exact h2 ⟨n, h⟩
theorem digits_ev (n : Nat) (h : n ≤ 4096) : Ev (fun k => latheref10_digits.f k (n : Int)) (mk (Lib.decDigits n)) := by
  induction n using Nat.strongRecOn with
  | _ n ih =>
    by_cases hn : n < 10
    · refine Ev.one fun k => ?_
      rw [latheref10_digits.f, if_pos (by omega), if_pos (by omega), wr64 ((n : Int) + 1) (by omega) (by omega), if_pos (by omega), if_pos (by omega), Lib.decDigits_one hn, ← lit10 n hn, Int.toNat_natCast]
      rfl
    · have e1 : Int.tdiv (n : Int) 10 = ((n / 10 : Nat) : Int) := by rw [Int.tdiv_eq_ediv_of_nonneg (by omega)]; omega
      have e2 : Int.tmod (n : Int) 10 = ((n % 10 : Nat) : Int) := by rw [Int.tmod_eq_emod_of_nonneg (by omega)]; omega
      have hlen := dec_len (u := n / 10) (by omega)
      refine Ev.step (f := fun k => (latheref10_digits.f k ((n / 10 : Nat) : Int)).bind fun t => if t.size + 1 ≤ 9223372036854775807 then some (t ++ mk [UInt8.ofNat (48 + n % 10)]) else none) (fun k => ?_) (Ev.bind (ih (n / 10) (by omega) (by omega)) (Ev.const fun k => ?_))
      · rw [latheref10_digits.f, if_neg (by omega), e1, e2, wr64 ((n / 10 : Nat) : Int) (by omega) (by omega), wr64 (((n % 10 : Nat) : Int) + 1) (by omega) (by omega)]
        rw [show (((n % 10 : Nat) : Int) + 1).toNat = n % 10 + 1 from by omega, Int.toNat_natCast, lit10 (n % 10) (by omega)]
        congr 1
        funext t
        rw [if_pos (by omega), if_pos (by omega), if_pos (by omega)]
        rfl
      · have hsz : (mk (Lib.decDigits (n / 10))).size ≤ 4 := by show (Lib.decDigits (n / 10)).toArray.size ≤ 4; simpa using hlen
        rw [if_pos (by omega)]
        congr 1
        apply dl_inj
        rw [dl_append, dl_mk, dl_mk, dl_mk, decDigits_big hn]
theorem kind_same (c : Int) : latheref10_Print.kind c = sign_Print.kind c := rfl
theorem rprint_l0 (l : List Pm) (hl : l.length ≤ 64) (hm : l.all mayB = true) : ∀ (d i : Nat) (s : ByteArray), l.length - i = d → i ≤ l.length → s.size ≤ 100 * i → Ev (fun k => latheref10_Print.l0 k l s (i : Int)) (s ++ mk ((l.drop i).flatMap sign_Print.one), 0) := by
  intro d
  induction d with
  | zero =>
    intro i s h hi hs
    rw [List.drop_of_length_le (by omega)]
    refine Ev.one fun k => ?_
    rw [latheref10_Print.l0, if_neg (by omega)]
    congr 2
    apply dl_inj
    rw [dl_append]; simp [mk]
  | succ d ih =>
    intro i s h hi hs
    have hlt : i < l.length := by omega
    rw [drop_at l i hlt]
    have hp : mayB (rd_T39 l (i : Int)) = true := by rw [rd_at l i hlt]; exact List.all_eq_true.1 hm _ (List.getElem_mem hlt)
    obtain ⟨hn, hk, h1, h2⟩ := may_bd hp
    have hl0 : ∀ k, latheref10_Print.l0 (k + 1) l s (i : Int) = (latheref10_digits.f k (rd_T39 l (i : Int)).f2).bind fun d => if s.size + (rd_T39 l (i : Int)).f0.size + 9 + d.size + 1 ≤ 9223372036854775807 then latheref10_Print.l0 k l ((((s ++ (rd_T39 l (i : Int)).f0) ++ latheref10_Print.kind (rd_T39 l (i : Int)).f1) ++ d) ++ (⟨#[10]⟩ : ByteArray)) (wrap64 ((i : Int) + 1)) else none := fun k => by rw [latheref10_Print.l0, if_pos (by omega)]
    generalize rd_T39 l (i : Int) = p at hn hk h1 h2 hl0 ⊢
    obtain ⟨m, hm'⟩ : ∃ m : Nat, p.f2 = m := ⟨p.f2.toNat, by omega⟩
    have hdl := dec_len (u := m) (by omega)
    have hnm : p.f0.size ≤ 64 := by
      unfold nmB at hn
      simp only [Bool.and_eq_true, decide_eq_true_eq] at hn
      exact hn.1.2
    have hks : (sign_Print.kind p.f1).size ≤ 9 := sign_Print.kind_le _
    have hds : (mk (Lib.decDigits m)).size ≤ 4 := by show (Lib.decDigits m).toArray.size ≤ 4; simpa using hdl
    have hs' : ((((s ++ p.f0) ++ sign_Print.kind p.f1) ++ mk (Lib.decDigits m)) ++ (⟨#[10]⟩ : ByteArray)).size ≤ 100 * (i + 1) := by
      simp only [ByteArray.size_append]
      have : (⟨#[10]⟩ : ByteArray).size = 1 := rfl
      omega
    have := ih (i + 1) _ (by omega) (by omega) hs'
    have he : ((((s ++ p.f0) ++ sign_Print.kind p.f1) ++ mk (Lib.decDigits m)) ++ (⟨#[10]⟩ : ByteArray)) ++ mk ((l.drop (i + 1)).flatMap sign_Print.one) = s ++ mk ((p :: l.drop (i + 1)).flatMap sign_Print.one) := by
      apply dl_inj
      simp only [dl_append, dl_mk, List.flatMap_cons, sign_Print.one, hm', itoa_nat, List.append_assoc]
    rw [he] at this
    refine Ev.step (fun k => hl0 k) (Ev.bind (by rw [hm']; exact digits_ev m (by omega)) (Ev.congr (fun k => ?_) this))
    rw [if_pos (by omega), wr64 _ (by omega) (by omega), kind_same]
    rfl
end Go.Proofs.YtojlooflfojdlaaDoor.Pure
