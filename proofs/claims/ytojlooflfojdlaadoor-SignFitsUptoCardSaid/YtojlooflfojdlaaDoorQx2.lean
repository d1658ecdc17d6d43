/- Lean functions with the answers of the Go functions that the law reaches, proved to be just these answers. Conditions: those that each theorem names. -/
import Derived.Test.YtojlooflfojdlaaDoorQx0
namespace Go.Proofs.YtojlooflfojdlaaDoor.Q
open Go.RowKit Go.Proofs.YtojlooflfojdlaaDoorW.PrintWords Go.Proofs.YtojlooflfojdlaaDoorW.PrintLast Go.Proofs.YtojlooflfojdlaaDoorW.PrintMore
attribute [local go_sem] max2_int min2_int max_two min_two max_three min_three max_four min_four   -- for this text's walks alone
set_option linter.unusedVariables false
set_option linter.unusedSimpArgs false

-- NOT PRINTED: function 76 (bytealg_IndexByteString)

-- NOT PRINTED: function 63 (stringslite_IndexByte)

-- NOT PRINTED: function 49 (strings_IndexByte)

/-! ### sign_name: function 40 -/
def sign_name.okb (c : Int) : Bool := decide ((65 ≤ c ∧ c ≤ 90) ∨ (97 ≤ c ∧ c ≤ 122) ∨ (48 ≤ c ∧ c ≤ 57) ∨ c = 95 ∨ c = 46 ∨ c = 47 ∨ c = 45)
def sign_name.f (a0 : ByteArray) : Option Bool := some (decide (a0.toList ≠ []) && decide (a0.size ≤ 64) && (bytesOf a0).all sign_name.okb)
theorem sign_name.index (c : Int) (h0 : 0 ≤ c) (h1 : c < 256) : decide (0 ≤ Lib.indexByte [95, 46, 47, 45] c.toNat.toUInt8) = decide (c = 95 ∨ c = 46 ∨ c = 47 ∨ c = 45) := by
 obtain ⟨n, rfl⟩ : ∃ n : Nat, c = n := ⟨c.toNat, by omega⟩
 have h : ∀ n : Fin 256, decide (0 ≤ Lib.indexByte [95, 46, 47, 45] n.val.toUInt8) = decide ((n.val : Int) = 95 ∨ (n.val : Int) = 46 ∨ (n.val : Int) = 47 ∨ (n.val : Int) = 45)   := by decide +kernel
 exact h ⟨n, by omega⟩
theorem sign_name.at_ (s : ByteArray) (i : Nat) (h : i < s.size) : ∃ c : Int, 0 ≤ c ∧ c < 256 ∧ s.data.toList.getD i 0 = c.toNat.toUInt8 ∧ ((s.data.toList.getD i 0).toNat : Int) = c ∧ (bytesOf s).take (i + 1) = (bytesOf s).take i ++ [c] := by
 have hl : i < s.data.toList.length := by rw [data_length]; exact h
 refine ⟨((s.data.toList.getD i 0).toNat : Int), by omega, by have := (s.data.toList.getD i 0).toNat_lt; omega, by simp, rfl, ?_⟩
 have hb : i < (bytesOf s).length := by rw [bytesOf_length]; exact h
 rw [List.take_succ_eq_append_getElem hb]
 simp [bytesOf, List.getD_eq_getElem?_getD, List.getElem?_eq_getElem hl]
theorem sign_name.bad (l : List Int) (n : Nat) (h : (l.take n).all sign_name.okb = false) : l.all sign_name.okb = false := by
 rw [← List.take_append_drop n l, List.all_append, h]
 rfl
set_option maxHeartbeats 4000000 in
set_option maxRecDepth 100000 in
theorem sign_name.calls (a0 : ByteArray) (r : Bool) (w : World) (h : sign_name.f a0 = some r) :
  Calls Tryd.prog 40 #[.string a0] w fun e w' => e = .returned (.bool r) ∧ Below w.heap.size w w' := by
 have hr : r = (decide (a0.toList ≠ []) && decide (a0.size ≤ 64) && (bytesOf a0).all sign_name.okb) := (Option.some.inj h).symm
 clear h
 have HR := Aside0.mk hr
 clear hr
 by_cases h1 : a0.toList = ([] : List UInt8)
 ·have e : r = false := by rw [HR.out, h1]; rfl
  have E := Aside0.mk e
  clear e
  have c3b0 : (a0.toList == ([] : List UInt8)) = true := beq_iff_eq.mpr h1
  have c3b1 : (a0.toList != ([] : List UInt8)) = false := bne_eq_false_iff_eq.mpr h1
  clear h1
  go_enter Tryd.func40, Tryd.ntmps40
  go_wp2
  go_ret
  exact ⟨by rw [E.out]; rfl, Below.refl _ _⟩
 have c3b0 : (a0.toList == ([] : List UInt8)) = false := beq_eq_false_iff_ne.mpr h1
 have c3b1 : (a0.toList != ([] : List UInt8)) = true := bne_iff_ne.mpr h1
 by_cases h2 : (a0.size : Int) > 64
 ·have e : r = false := by rw [HR.out, show decide (a0.size ≤ 64) = false from decide_eq_false (by omega)]; simp
  have E := Aside0.mk e
  clear e h1
  have c4 : decide (64 < (a0.size : Int)) = true := decide_eq_true h2
  have c5 : decide (64 < a0.size) = true := decide_eq_true (by omega)
  clear h2
  go_enter Tryd.func40, Tryd.ntmps40
  go_wp2
  go_ret
  exact ⟨by rw [E.out]; rfl, Below.refl _ _⟩
 have hs : a0.size ≤ 64 := by omega
 have c4 : decide (64 < (a0.size : Int)) = false := decide_eq_false h2
 have c5 : decide (64 < a0.size) = false := decide_eq_false (by omega)
 have e : r = (bytesOf a0).all sign_name.okb := by rw [HR.out, show decide (a0.toList ≠ []) = true from decide_eq_true h1, show decide (a0.size ≤ 64) = true from decide_eq_true hs]; rfl
 have E := Aside0.mk e
 clear e h1 h2
 have hcv := Lib.run_convert_string_bytes (P := Tryd.prog) w 9 54 5 a0 (u := .string) Tryd.underlying9 Tryd.underlying54 Tryd.underlying5
 have hB : ∀ j, j < a0.size → (Lib.bytesWorld w 5 a0).cell? ⟨w.heap.size, j, none⟩ = some (.int .u8 (a0.data.toList.getD j 0).toNat) := fun j hj => Lib.bytesWorld_cell w 5 a0 j hj
 have HW := Aside0.mk (bytes_below (Below.refl w.heap.size w) (Nat.le_refl _) 5 a0)
 obtain ⟨W1, hW1⟩ : ∃ W1, W1 = Lib.bytesWorld w 5 a0 := ⟨_, rfl⟩
 rw [← hW1] at hcv hB HW
 have HBB := Aside0.mk hB
 clear hW1 hB
 go_enter Tryd.func40, Tryd.ntmps40
 go_wp2
 go_loop [15, 4] (fun i _ => ∃ k : Nat, k ≤ a0.size ∧ i = .int .i64 k ∧ Aside0 (((bytesOf a0).take k).all sign_name.okb = true)) (fun i _ => a0.size - (intOf i).toNat)
 case atStart => exact ⟨0, Nat.zero_le _, rfl, ⟨rfl⟩⟩
 case round =>
  obtain ⟨k, hk, rfl, HA⟩ := hrel
  by_cases hlt : k < a0.size
  ·have hc := HBB.out k hlt
   obtain ⟨c, hc0, hc1, hcu, hcn, hct⟩ := sign_name.at_ a0 k hlt
   rw [hcn] at hc
   have HT := Aside0.mk hct
   have HX := Aside0.mk (sign_name.index c hc0 hc1)
   clear hcu hcn hct
   by_cases d1 : 65 ≤ c ∧ c ≤ 90
   ·obtain ⟨d1a, d1b⟩ := d1
    go_wp2
    go_round
    case rel => exact ⟨k + 1, by omega, by go_num, ⟨by rw [HT.out, List.all_append, HA.out]; simp [sign_name.okb, d1a, d1b]⟩⟩
    case measure => simp [intOf]; omega
   by_cases d2 : 97 ≤ c ∧ c ≤ 122
   ·obtain ⟨d2a, d2b⟩ := d2
    have d1b : ¬ c ≤ 90 := by omega
    all_goals go_wp2
    all_goals
     go_round
     case rel => exact ⟨k + 1, by omega, by go_num, ⟨by rw [HT.out, List.all_append, HA.out]; simp [sign_name.okb]; omega⟩⟩
     case measure => simp [intOf]; omega
   by_cases d3 : 48 ≤ c ∧ c ≤ 57
   ·obtain ⟨d3a, d3b⟩ := d3
    have d1a : ¬ 65 ≤ c := by omega
    have d2a : ¬ 97 ≤ c := by omega
    clear d1 d2
    go_wp2
    all_goals
     go_round
     case rel => exact ⟨k + 1, by omega, by go_num, ⟨by rw [HT.out, List.all_append, HA.out]; simp [sign_name.okb]; omega⟩⟩
     case measure => simp [intOf]; omega
   have D1 := Aside0.mk d1
   have D2 := Aside0.mk d2
   have D3 := Aside0.mk d3
   by_cases d4 : c = 95 ∨ c = 46 ∨ c = 47 ∨ c = 45
   ·have hx : decide (0 ≤ Lib.indexByte [95, 46, 47, 45] c.toNat.toUInt8) = true := by rw [HX.out]; exact decide_eq_true d4
    have e1 : decide (65 ≤ c ∧ c ≤ 90) = false := decide_eq_false d1
    clear d4
    go_wp2_with (go_at_call 49; refine (Tryd.strings_IndexByte _ _ _).mono ?_; rintro e w' ⟨rfl, rfl⟩)
    all_goals
     go_round
     case rel => exact ⟨k + 1, by omega, by go_num, ⟨by rw [HT.out, List.all_append, HA.out]; have := HX.out; rw [hx] at this; have h4 := of_decide_eq_true this.symm; simp [sign_name.okb]; omega⟩⟩
     case measure => simp [intOf]; omega
   ·have hx : decide (0 ≤ Lib.indexByte [95, 46, 47, 45] c.toNat.toUInt8) = false := by rw [HX.out]; exact decide_eq_false d4
    have D4 := Aside0.mk d4
    clear d4
    go_wp2_with (go_at_call 49; refine (Tryd.strings_IndexByte _ _ _).mono ?_; rintro e w' ⟨rfl, rfl⟩)
    all_goals go_ret
    all_goals
     refine ⟨?_, HW.out⟩
     have q : sign_name.okb c = false := by
      have h1 := D1.out; have h2 := D2.out; have h3 := D3.out; have h4 := D4.out
      exact decide_eq_false (by omega)
     rw [E.out, sign_name.bad (bytesOf a0) (k + 1) (by rw [HT.out, List.all_append]; simp [q])]
     rfl
  ·have hin : k = a0.size := by omega
   go_wp2
   go_ret
   refine ⟨?_, HW.out⟩
   rw [E.out, ← HA.out, hin, List.take_of_length_le (by rw [bytesOf_length]; omega)]
   rfl

/-! ### sign_may: function 32 -/
def sign_may.f (a0_0 : ByteArray) (a0_1 : Int) (a0_2 : Int) : Option (Bool) := (sign_name.f a0_0).bind fun t102 => (if t102 = true then (if a0_1 = 1 then (if a0_2 ≥ 1 then (some (decide (a0_2 ≤ 4096))) else (some false)) else (if a0_1 = 2 then (if a0_2 ≥ 1 then (some (decide (a0_2 ≤ 4096))) else (some false)) else (some false))) else (some false))
set_option maxHeartbeats 8000000 in
set_option maxRecDepth 100000 in
theorem sign_may.calls (a0_0 : ByteArray) (a0_1 : Int) (a0_2 : Int) (r : Bool) (w : World) (h : sign_may.f a0_0 a0_1 a0_2 = some r) :
  Calls Tryd.prog 32 #[.agg #[.string a0_0, .int .i64 a0_1, .int .i64 a0_2]] w fun e w' => e = .returned (.bool r) ∧ Below w.heap.size w w' := by
 have hu39 := Tryd.underlying39
 have HB := Aside0.mk (Below.refl w.heap.size w)
 have H : ((sign_name.f a0_0).bind fun t102 => (if t102 = true then (if a0_1 = 1 then (if a0_2 ≥ 1 then (some (decide (a0_2 ≤ 4096))) else (some false)) else (if a0_1 = 2 then (if a0_2 ≥ 1 then (some (decide (a0_2 ≤ 4096))) else (some false)) else (some false))) else (some false))) = some r := h
 clear h
 replace H := Option.bind_eq_some_iff.mp H
 obtain ⟨t102, A20, H⟩ := H
 replace H : (if t102 = true then (if a0_1 = 1 then (if a0_2 ≥ 1 then (some (decide (a0_2 ≤ 4096))) else (some false)) else (if a0_1 = 2 then (if a0_2 ≥ 1 then (some (decide (a0_2 ≤ 4096))) else (some false)) else (some false))) else (some false)) = some r := H
 have A2 := Aside0.mk A20
 clear A20
 by_cases c3 : t102 = true
 ·subst c3
  have H1 : (if a0_1 = 1 then (if a0_2 ≥ 1 then (some (decide (a0_2 ≤ 4096))) else (some false)) else (if a0_1 = 2 then (if a0_2 ≥ 1 then (some (decide (a0_2 ≤ 4096))) else (some false)) else (some false))) = some r := by rw [if_pos rfl] at H; exact H
  clear H
  have H := H1
  clear H1
  by_cases c4 : a0_1 = 1
  ·rw [if_pos c4] at H
   have c4b0 : (a0_1 == 1) = true := beq_iff_eq.mpr c4
   have c4b1 : (a0_1 != 1) = false := bne_eq_false_iff_eq.mpr c4
   clear c4
   by_cases c5 : a0_2 ≥ 1
   ·rw [if_pos c5] at H
    have c5b0 : decide (1 ≤ a0_2) = true := decide_eq_true c5
    clear c5
    obtain rfl := Option.some.inj H
    go_enter Tryd.func32, Tryd.ntmps32
    go_wp2_with (first | ((with_reducible refine gate_dst (N := 1) rfl ?_); refine box_event ?hg (N := 1) ?hd (cs := #[.string a0_0, .int .i64 a0_1, .int .i64 a0_2]) (t := 39) ?hr ?_; (case hd => rfl); (case hg => rfl); (case hr => first | (go_simp; done) | (go_simp; rfl)); intro gb101 hg w6 hbox hb; have BK101 := Aside0.mk (hbox); have GW101 := Aside0.mk ((by rw [hg]; exact (below_size (by repeat (first | (with_reducible first | exact HB.out | apply below_alloc | apply pw_below_drewN | apply below_drew1) | exact HB.out))) : w.heap.size ≤ gb101)); have GE101 := Aside0.mk ((by rw [hg]; exact (below_size (by repeat (first | (with_reducible first | exact HB.out | apply below_alloc | apply pw_below_drewN | apply below_drew1) | exact HB.out))) : w.heap.size ≤ gb101)); replace HB := Aside0.mk (below_step (by repeat (first | (with_reducible first | exact HB.out | apply below_alloc | apply pw_below_drewN | apply below_drew1) | exact HB.out)) hb); clear hb hbox hg; obtain ⟨hcz7_0, hcz7_1, hcz7_2, hfz7_0, hfz7_1, hfz7_2⟩ := blk3 BK101.out) | ((with_reducible refine gate_callee (f := 40) rfl ?_); refine goesL_ (some 5) rfl rfl Tryd.func40 (by kernel_rfl) rfl #[.string a0_0] rfl (by (try simp only [List.map_toArray, List.map_cons, List.map_nil]); first | done | rfl | (simp only [List.length_drop, List.length_take]; rfl)) ?_; (with_reducible refine (sign_name.calls a0_0 true _ A2.out).mono ?_); rintro e w8 ⟨rfl, hb⟩; refine ⟨_, rfl, ?_⟩; replace BK101 := Aside0.mk (blk_below (by (with_reducible repeat (first | refine blk_drewN ?_ _ | refine blk_drew ?_ | refine blk_alloc ?_ _)); exact BK101.out) hb); replace HB := Aside0.mk (below_step (by repeat (first | (with_reducible first | exact HB.out | apply below_alloc | apply pw_below_drewN | apply below_drew1 | refine below_set ?_ GE101.out) | exact HB.out)) hb); (try clear hb); (try clear hb2); (try clear hk); (try clear hi); obtain ⟨hcz9_0, hcz9_1, hcz9_2, hfz9_0, hfz9_1, hfz9_2⟩ := blk3 BK101.out))
    go_ret
    exact ⟨by first | rfl | (simp [errW_none, errW_some] <;> rfl) | (simp [*, errW_none, errW_some] <;> rfl), by repeat (first | (with_reducible first | exact HB.out | apply below_alloc | apply pw_below_drewN | apply below_drew1 | refine below_set ?_ GE101.out) | exact HB.out)⟩
   ·rw [if_neg c5] at H
    have c5b0 : decide (1 ≤ a0_2) = false := decide_eq_false c5
    clear c5
    obtain rfl := Option.some.inj H
    go_enter Tryd.func32, Tryd.ntmps32
    go_wp2_with (first | ((with_reducible refine gate_dst (N := 1) rfl ?_); refine box_event ?hg (N := 1) ?hd (cs := #[.string a0_0, .int .i64 a0_1, .int .i64 a0_2]) (t := 39) ?hr ?_; (case hd => rfl); (case hg => rfl); (case hr => first | (go_simp; done) | (go_simp; rfl)); intro gb101 hg w10 hbox hb; have BK101 := Aside0.mk (hbox); have GW101 := Aside0.mk ((by rw [hg]; exact (below_size (by repeat (first | (with_reducible first | exact HB.out | apply below_alloc | apply pw_below_drewN | apply below_drew1) | exact HB.out))) : w.heap.size ≤ gb101)); have GE101 := Aside0.mk ((by rw [hg]; exact (below_size (by repeat (first | (with_reducible first | exact HB.out | apply below_alloc | apply pw_below_drewN | apply below_drew1) | exact HB.out))) : w.heap.size ≤ gb101)); replace HB := Aside0.mk (below_step (by repeat (first | (with_reducible first | exact HB.out | apply below_alloc | apply pw_below_drewN | apply below_drew1) | exact HB.out)) hb); clear hb hbox hg; obtain ⟨hcz11_0, hcz11_1, hcz11_2, hfz11_0, hfz11_1, hfz11_2⟩ := blk3 BK101.out) | ((with_reducible refine gate_callee (f := 40) rfl ?_); refine goesL_ (some 5) rfl rfl Tryd.func40 (by kernel_rfl) rfl #[.string a0_0] rfl (by (try simp only [List.map_toArray, List.map_cons, List.map_nil]); first | done | rfl | (simp only [List.length_drop, List.length_take]; rfl)) ?_; (with_reducible refine (sign_name.calls a0_0 true _ A2.out).mono ?_); rintro e w12 ⟨rfl, hb⟩; refine ⟨_, rfl, ?_⟩; replace BK101 := Aside0.mk (blk_below (by (with_reducible repeat (first | refine blk_drewN ?_ _ | refine blk_drew ?_ | refine blk_alloc ?_ _)); exact BK101.out) hb); replace HB := Aside0.mk (below_step (by repeat (first | (with_reducible first | exact HB.out | apply below_alloc | apply pw_below_drewN | apply below_drew1 | refine below_set ?_ GE101.out) | exact HB.out)) hb); (try clear hb); (try clear hb2); (try clear hk); (try clear hi); obtain ⟨hcz13_0, hcz13_1, hcz13_2, hfz13_0, hfz13_1, hfz13_2⟩ := blk3 BK101.out))
    go_ret
    exact ⟨by first | rfl | (simp [errW_none, errW_some] <;> rfl) | (simp [*, errW_none, errW_some] <;> rfl), by repeat (first | (with_reducible first | exact HB.out | apply below_alloc | apply pw_below_drewN | apply below_drew1 | refine below_set ?_ GE101.out) | exact HB.out)⟩
  ·rw [if_neg c4] at H
   have c4b0 : (a0_1 == 1) = false := beq_eq_false_iff_ne.mpr c4
   have c4b1 : (a0_1 != 1) = true := bne_iff_ne.mpr c4
   by_cases c14 : a0_1 = 2
   ·rw [if_pos c14] at H
    have c14b0 : (a0_1 == 2) = true := beq_iff_eq.mpr c14
    have c14b1 : (a0_1 != 2) = false := bne_eq_false_iff_eq.mpr c14
    clear c14
    by_cases c15 : a0_2 ≥ 1
    ·rw [if_pos c15] at H
     have c15b0 : decide (1 ≤ a0_2) = true := decide_eq_true c15
     clear c15
     obtain rfl := Option.some.inj H
     go_enter Tryd.func32, Tryd.ntmps32
     go_wp2_with (first | ((with_reducible refine gate_dst (N := 1) rfl ?_); refine box_event ?hg (N := 1) ?hd (cs := #[.string a0_0, .int .i64 a0_1, .int .i64 a0_2]) (t := 39) ?hr ?_; (case hd => rfl); (case hg => rfl); (case hr => first | (go_simp; done) | (go_simp; rfl)); intro gb101 hg w16 hbox hb; have BK101 := Aside0.mk (hbox); have GW101 := Aside0.mk ((by rw [hg]; exact (below_size (by repeat (first | (with_reducible first | exact HB.out | apply below_alloc | apply pw_below_drewN | apply below_drew1) | exact HB.out))) : w.heap.size ≤ gb101)); have GE101 := Aside0.mk ((by rw [hg]; exact (below_size (by repeat (first | (with_reducible first | exact HB.out | apply below_alloc | apply pw_below_drewN | apply below_drew1) | exact HB.out))) : w.heap.size ≤ gb101)); replace HB := Aside0.mk (below_step (by repeat (first | (with_reducible first | exact HB.out | apply below_alloc | apply pw_below_drewN | apply below_drew1) | exact HB.out)) hb); clear hb hbox hg; obtain ⟨hcz17_0, hcz17_1, hcz17_2, hfz17_0, hfz17_1, hfz17_2⟩ := blk3 BK101.out) | ((with_reducible refine gate_callee (f := 40) rfl ?_); refine goesL_ (some 5) rfl rfl Tryd.func40 (by kernel_rfl) rfl #[.string a0_0] rfl (by (try simp only [List.map_toArray, List.map_cons, List.map_nil]); first | done | rfl | (simp only [List.length_drop, List.length_take]; rfl)) ?_; (with_reducible refine (sign_name.calls a0_0 true _ A2.out).mono ?_); rintro e w18 ⟨rfl, hb⟩; refine ⟨_, rfl, ?_⟩; replace BK101 := Aside0.mk (blk_below (by (with_reducible repeat (first | refine blk_drewN ?_ _ | refine blk_drew ?_ | refine blk_alloc ?_ _)); exact BK101.out) hb); replace HB := Aside0.mk (below_step (by repeat (first | (with_reducible first | exact HB.out | apply below_alloc | apply pw_below_drewN | apply below_drew1 | refine below_set ?_ GE101.out) | exact HB.out)) hb); (try clear hb); (try clear hb2); (try clear hk); (try clear hi); obtain ⟨hcz19_0, hcz19_1, hcz19_2, hfz19_0, hfz19_1, hfz19_2⟩ := blk3 BK101.out))
     go_ret
     exact ⟨by first | rfl | (simp [errW_none, errW_some] <;> rfl) | (simp [*, errW_none, errW_some] <;> rfl), by repeat (first | (with_reducible first | exact HB.out | apply below_alloc | apply pw_below_drewN | apply below_drew1 | refine below_set ?_ GE101.out) | exact HB.out)⟩
    ·rw [if_neg c15] at H
     have c15b0 : decide (1 ≤ a0_2) = false := decide_eq_false c15
     clear c15
     obtain rfl := Option.some.inj H
     go_enter Tryd.func32, Tryd.ntmps32
     go_wp2_with (first | ((with_reducible refine gate_dst (N := 1) rfl ?_); refine box_event ?hg (N := 1) ?hd (cs := #[.string a0_0, .int .i64 a0_1, .int .i64 a0_2]) (t := 39) ?hr ?_; (case hd => rfl); (case hg => rfl); (case hr => first | (go_simp; done) | (go_simp; rfl)); intro gb101 hg w20 hbox hb; have BK101 := Aside0.mk (hbox); have GW101 := Aside0.mk ((by rw [hg]; exact (below_size (by repeat (first | (with_reducible first | exact HB.out | apply below_alloc | apply pw_below_drewN | apply below_drew1) | exact HB.out))) : w.heap.size ≤ gb101)); have GE101 := Aside0.mk ((by rw [hg]; exact (below_size (by repeat (first | (with_reducible first | exact HB.out | apply below_alloc | apply pw_below_drewN | apply below_drew1) | exact HB.out))) : w.heap.size ≤ gb101)); replace HB := Aside0.mk (below_step (by repeat (first | (with_reducible first | exact HB.out | apply below_alloc | apply pw_below_drewN | apply below_drew1) | exact HB.out)) hb); clear hb hbox hg; obtain ⟨hcz21_0, hcz21_1, hcz21_2, hfz21_0, hfz21_1, hfz21_2⟩ := blk3 BK101.out) | ((with_reducible refine gate_callee (f := 40) rfl ?_); refine goesL_ (some 5) rfl rfl Tryd.func40 (by kernel_rfl) rfl #[.string a0_0] rfl (by (try simp only [List.map_toArray, List.map_cons, List.map_nil]); first | done | rfl | (simp only [List.length_drop, List.length_take]; rfl)) ?_; (with_reducible refine (sign_name.calls a0_0 true _ A2.out).mono ?_); rintro e w22 ⟨rfl, hb⟩; refine ⟨_, rfl, ?_⟩; replace BK101 := Aside0.mk (blk_below (by (with_reducible repeat (first | refine blk_drewN ?_ _ | refine blk_drew ?_ | refine blk_alloc ?_ _)); exact BK101.out) hb); replace HB := Aside0.mk (below_step (by repeat (first | (with_reducible first | exact HB.out | apply below_alloc | apply pw_below_drewN | apply below_drew1 | refine below_set ?_ GE101.out) | exact HB.out)) hb); (try clear hb); (try clear hb2); (try clear hk); (try clear hi); obtain ⟨hcz23_0, hcz23_1, hcz23_2, hfz23_0, hfz23_1, hfz23_2⟩ := blk3 BK101.out))
     go_ret
     exact ⟨by first | rfl | (simp [errW_none, errW_some] <;> rfl) | (simp [*, errW_none, errW_some] <;> rfl), by repeat (first | (with_reducible first | exact HB.out | apply below_alloc | apply pw_below_drewN | apply below_drew1 | refine below_set ?_ GE101.out) | exact HB.out)⟩
   ·rw [if_neg c14] at H
    have c14b0 : (a0_1 == 2) = false := beq_eq_false_iff_ne.mpr c14
    have c14b1 : (a0_1 != 2) = true := bne_iff_ne.mpr c14
    obtain rfl := Option.some.inj H
    go_enter Tryd.func32, Tryd.ntmps32
    go_wp2_with (first | ((with_reducible refine gate_dst (N := 1) rfl ?_); refine box_event ?hg (N := 1) ?hd (cs := #[.string a0_0, .int .i64 a0_1, .int .i64 a0_2]) (t := 39) ?hr ?_; (case hd => rfl); (case hg => rfl); (case hr => first | (go_simp; done) | (go_simp; rfl)); intro gb101 hg w24 hbox hb; have BK101 := Aside0.mk (hbox); have GW101 := Aside0.mk ((by rw [hg]; exact (below_size (by repeat (first | (with_reducible first | exact HB.out | apply below_alloc | apply pw_below_drewN | apply below_drew1) | exact HB.out))) : w.heap.size ≤ gb101)); have GE101 := Aside0.mk ((by rw [hg]; exact (below_size (by repeat (first | (with_reducible first | exact HB.out | apply below_alloc | apply pw_below_drewN | apply below_drew1) | exact HB.out))) : w.heap.size ≤ gb101)); replace HB := Aside0.mk (below_step (by repeat (first | (with_reducible first | exact HB.out | apply below_alloc | apply pw_below_drewN | apply below_drew1) | exact HB.out)) hb); clear hb hbox hg; obtain ⟨hcz25_0, hcz25_1, hcz25_2, hfz25_0, hfz25_1, hfz25_2⟩ := blk3 BK101.out) | ((with_reducible refine gate_callee (f := 40) rfl ?_); refine goesL_ (some 5) rfl rfl Tryd.func40 (by kernel_rfl) rfl #[.string a0_0] rfl (by (try simp only [List.map_toArray, List.map_cons, List.map_nil]); first | done | rfl | (simp only [List.length_drop, List.length_take]; rfl)) ?_; (with_reducible refine (sign_name.calls a0_0 true _ A2.out).mono ?_); rintro e w26 ⟨rfl, hb⟩; refine ⟨_, rfl, ?_⟩; replace BK101 := Aside0.mk (blk_below (by (with_reducible repeat (first | refine blk_drewN ?_ _ | refine blk_drew ?_ | refine blk_alloc ?_ _)); exact BK101.out) hb); replace HB := Aside0.mk (below_step (by repeat (first | (with_reducible first | exact HB.out | apply below_alloc | apply pw_below_drewN | apply below_drew1 | refine below_set ?_ GE101.out) | exact HB.out)) hb); (try clear hb); (try clear hb2); (try clear hk); (try clear hi); obtain ⟨hcz27_0, hcz27_1, hcz27_2, hfz27_0, hfz27_1, hfz27_2⟩ := blk3 BK101.out))
    go_ret
    exact ⟨by first | rfl | (simp [errW_none, errW_some] <;> rfl) | (simp [*, errW_none, errW_some] <;> rfl), by repeat (first | (with_reducible first | exact HB.out | apply below_alloc | apply pw_below_drewN | apply below_drew1 | refine below_set ?_ GE101.out) | exact HB.out)⟩
 ·replace c3 := Bool.eq_false_iff.mpr c3
  subst c3
  have H1 : (some false) = some r := by rw [if_neg (show ¬ (false = true) by decide)] at H; exact H
  clear H
  have H := H1
  clear H1
  obtain rfl := Option.some.inj H
  go_enter Tryd.func32, Tryd.ntmps32
  go_wp2_with (first | ((with_reducible refine gate_dst (N := 1) rfl ?_); refine box_event ?hg (N := 1) ?hd (cs := #[.string a0_0, .int .i64 a0_1, .int .i64 a0_2]) (t := 39) ?hr ?_; (case hd => rfl); (case hg => rfl); (case hr => first | (go_simp; done) | (go_simp; rfl)); intro gb101 hg w28 hbox hb; have BK101 := Aside0.mk (hbox); have GW101 := Aside0.mk ((by rw [hg]; exact (below_size (by repeat (first | (with_reducible first | exact HB.out | apply below_alloc | apply pw_below_drewN | apply below_drew1) | exact HB.out))) : w.heap.size ≤ gb101)); have GE101 := Aside0.mk ((by rw [hg]; exact (below_size (by repeat (first | (with_reducible first | exact HB.out | apply below_alloc | apply pw_below_drewN | apply below_drew1) | exact HB.out))) : w.heap.size ≤ gb101)); replace HB := Aside0.mk (below_step (by repeat (first | (with_reducible first | exact HB.out | apply below_alloc | apply pw_below_drewN | apply below_drew1) | exact HB.out)) hb); clear hb hbox hg; obtain ⟨hcz29_0, hcz29_1, hcz29_2, hfz29_0, hfz29_1, hfz29_2⟩ := blk3 BK101.out) | ((with_reducible refine gate_callee (f := 40) rfl ?_); refine goesL_ (some 5) rfl rfl Tryd.func40 (by kernel_rfl) rfl #[.string a0_0] rfl (by (try simp only [List.map_toArray, List.map_cons, List.map_nil]); first | done | rfl | (simp only [List.length_drop, List.length_take]; rfl)) ?_; (with_reducible refine (sign_name.calls a0_0 false _ A2.out).mono ?_); rintro e w30 ⟨rfl, hb⟩; refine ⟨_, rfl, ?_⟩; replace BK101 := Aside0.mk (blk_below (by (with_reducible repeat (first | refine blk_drewN ?_ _ | refine blk_drew ?_ | refine blk_alloc ?_ _)); exact BK101.out) hb); replace HB := Aside0.mk (below_step (by repeat (first | (with_reducible first | exact HB.out | apply below_alloc | apply pw_below_drewN | apply below_drew1 | refine below_set ?_ GE101.out) | exact HB.out)) hb); (try clear hb); (try clear hb2); (try clear hk); (try clear hi)))
  go_ret
  exact ⟨by first | rfl | (simp [errW_none, errW_some] <;> rfl) | (simp [*, errW_none, errW_some] <;> rfl), by repeat (first | (with_reducible first | exact HB.out | apply below_alloc | apply pw_below_drewN | apply below_drew1 | refine below_set ?_ GE101.out) | exact HB.out)⟩

/-! ### sign_Numbers: function 21 -/
def sign_Numbers.f (a0_0 : ByteArray) (a0_1 : Int) (a0_2 : Int) : Option (Int) := (sign_may.f a0_0 a0_1 a0_2).bind fun t104 => (if t104 = true then (if a0_1 = 2 then (some (wrap64 (2 * a0_2))) else (some a0_2)) else (some 0))
set_option maxHeartbeats 8000000 in
set_option maxRecDepth 100000 in
theorem sign_Numbers.calls (a0_0 : ByteArray) (a0_1 : Int) (a0_2 : Int) (r : Int) (w : World) (h : sign_Numbers.f a0_0 a0_1 a0_2 = some r) :
  Calls Tryd.prog 21 #[.agg #[.string a0_0, .int .i64 a0_1, .int .i64 a0_2]] w fun e w' => e = .returned (.int .i64 r) ∧ Below w.heap.size w w' := by
 have hu39 := Tryd.underlying39
 have HB := Aside0.mk (Below.refl w.heap.size w)
 have H : ((sign_may.f a0_0 a0_1 a0_2).bind fun t104 => (if t104 = true then (if a0_1 = 2 then (some (wrap64 (2 * a0_2))) else (some a0_2)) else (some 0))) = some r := h
 clear h
 replace H := Option.bind_eq_some_iff.mp H
 obtain ⟨t104, A20, H⟩ := H
 replace H : (if t104 = true then (if a0_1 = 2 then (some (wrap64 (2 * a0_2))) else (some a0_2)) else (some 0)) = some r := H
 have A2 := Aside0.mk A20
 clear A20
 by_cases c3 : t104 = true
 ·subst c3
  have H1 : (if a0_1 = 2 then (some (wrap64 (2 * a0_2))) else (some a0_2)) = some r := by rw [if_pos rfl] at H; exact H
  clear H
  have H := H1
  clear H1
  by_cases c4 : a0_1 = 2
  ·rw [if_pos c4] at H
   have c4b0 : (a0_1 == 2) = true := beq_iff_eq.mpr c4
   have c4b1 : (a0_1 != 2) = false := bne_eq_false_iff_eq.mpr c4
   clear c4
   obtain rfl := Option.some.inj H
   go_enter Tryd.func21, Tryd.ntmps21
   go_wp2_with (first | ((with_reducible refine gate_dst (N := 1) rfl ?_); refine box_event ?hg (N := 1) ?hd (cs := #[.string a0_0, .int .i64 a0_1, .int .i64 a0_2]) (t := 39) ?hr ?_; (case hd => rfl); (case hg => rfl); (case hr => first | (go_simp; done) | (go_simp; rfl)); intro gb103 hg w5 hbox hb; have BK103 := Aside0.mk (hbox); have GW103 := Aside0.mk ((by rw [hg]; exact (below_size (by repeat (first | (with_reducible first | exact HB.out | apply below_alloc | apply pw_below_drewN | apply below_drew1) | exact HB.out))) : w.heap.size ≤ gb103)); have GE103 := Aside0.mk ((by rw [hg]; exact (below_size (by repeat (first | (with_reducible first | exact HB.out | apply below_alloc | apply pw_below_drewN | apply below_drew1) | exact HB.out))) : w.heap.size ≤ gb103)); replace HB := Aside0.mk (below_step (by repeat (first | (with_reducible first | exact HB.out | apply below_alloc | apply pw_below_drewN | apply below_drew1) | exact HB.out)) hb); clear hb hbox hg; obtain ⟨hcz6_0, hcz6_1, hcz6_2, hfz6_0, hfz6_1, hfz6_2⟩ := blk3 BK103.out) | ((with_reducible refine gate_callee (f := 32) rfl ?_); refine goesL_ (some 5) rfl rfl Tryd.func32 (by kernel_rfl) rfl #[.agg #[.string a0_0, .int .i64 a0_1, .int .i64 a0_2]] rfl (by (try simp only [List.map_toArray, List.map_cons, List.map_nil]); first | done | rfl | (simp only [List.length_drop, List.length_take]; rfl)) ?_; (with_reducible refine (sign_may.calls a0_0 a0_1 a0_2 true _ A2.out).mono ?_); rintro e w7 ⟨rfl, hb⟩; refine ⟨_, rfl, ?_⟩; replace BK103 := Aside0.mk (blk_below (by (with_reducible repeat (first | refine blk_drewN ?_ _ | refine blk_drew ?_ | refine blk_alloc ?_ _)); exact BK103.out) hb); replace HB := Aside0.mk (below_step (by repeat (first | (with_reducible first | exact HB.out | apply below_alloc | apply pw_below_drewN | apply below_drew1 | refine below_set ?_ GE103.out) | exact HB.out)) hb); (try clear hb); (try clear hb2); (try clear hk); (try clear hi); obtain ⟨hcz8_0, hcz8_1, hcz8_2, hfz8_0, hfz8_1, hfz8_2⟩ := blk3 BK103.out))
   go_ret
   exact ⟨by first | rfl | (simp [errW_none, errW_some] <;> rfl) | (simp [*, errW_none, errW_some] <;> rfl), by repeat (first | (with_reducible first | exact HB.out | apply below_alloc | apply pw_below_drewN | apply below_drew1 | refine below_set ?_ GE103.out) | exact HB.out)⟩
  ·rw [if_neg c4] at H
   have c4b0 : (a0_1 == 2) = false := beq_eq_false_iff_ne.mpr c4
   have c4b1 : (a0_1 != 2) = true := bne_iff_ne.mpr c4
   obtain rfl := Option.some.inj H
   go_enter Tryd.func21, Tryd.ntmps21
   go_wp2_with (first | ((with_reducible refine gate_dst (N := 1) rfl ?_); refine box_event ?hg (N := 1) ?hd (cs := #[.string a0_0, .int .i64 a0_1, .int .i64 a0_2]) (t := 39) ?hr ?_; (case hd => rfl); (case hg => rfl); (case hr => first | (go_simp; done) | (go_simp; rfl)); intro gb103 hg w9 hbox hb; have BK103 := Aside0.mk (hbox); have GW103 := Aside0.mk ((by rw [hg]; exact (below_size (by repeat (first | (with_reducible first | exact HB.out | apply below_alloc | apply pw_below_drewN | apply below_drew1) | exact HB.out))) : w.heap.size ≤ gb103)); have GE103 := Aside0.mk ((by rw [hg]; exact (below_size (by repeat (first | (with_reducible first | exact HB.out | apply below_alloc | apply pw_below_drewN | apply below_drew1) | exact HB.out))) : w.heap.size ≤ gb103)); replace HB := Aside0.mk (below_step (by repeat (first | (with_reducible first | exact HB.out | apply below_alloc | apply pw_below_drewN | apply below_drew1) | exact HB.out)) hb); clear hb hbox hg; obtain ⟨hcz10_0, hcz10_1, hcz10_2, hfz10_0, hfz10_1, hfz10_2⟩ := blk3 BK103.out) | ((with_reducible refine gate_callee (f := 32) rfl ?_); refine goesL_ (some 5) rfl rfl Tryd.func32 (by kernel_rfl) rfl #[.agg #[.string a0_0, .int .i64 a0_1, .int .i64 a0_2]] rfl (by (try simp only [List.map_toArray, List.map_cons, List.map_nil]); first | done | rfl | (simp only [List.length_drop, List.length_take]; rfl)) ?_; (with_reducible refine (sign_may.calls a0_0 a0_1 a0_2 true _ A2.out).mono ?_); rintro e w11 ⟨rfl, hb⟩; refine ⟨_, rfl, ?_⟩; replace BK103 := Aside0.mk (blk_below (by (with_reducible repeat (first | refine blk_drewN ?_ _ | refine blk_drew ?_ | refine blk_alloc ?_ _)); exact BK103.out) hb); replace HB := Aside0.mk (below_step (by repeat (first | (with_reducible first | exact HB.out | apply below_alloc | apply pw_below_drewN | apply below_drew1 | refine below_set ?_ GE103.out) | exact HB.out)) hb); (try clear hb); (try clear hb2); (try clear hk); (try clear hi); obtain ⟨hcz12_0, hcz12_1, hcz12_2, hfz12_0, hfz12_1, hfz12_2⟩ := blk3 BK103.out))
   go_ret
   exact ⟨by first | rfl | (simp [errW_none, errW_some] <;> rfl) | (simp [*, errW_none, errW_some] <;> rfl), by repeat (first | (with_reducible first | exact HB.out | apply below_alloc | apply pw_below_drewN | apply below_drew1 | refine below_set ?_ GE103.out) | exact HB.out)⟩
 ·replace c3 := Bool.eq_false_iff.mpr c3
  subst c3
  have H1 : (some 0) = some r := by rw [if_neg (show ¬ (false = true) by decide)] at H; exact H
  clear H
  have H := H1
  clear H1
  obtain rfl := Option.some.inj H
  go_enter Tryd.func21, Tryd.ntmps21
  go_wp2_with (first | ((with_reducible refine gate_dst (N := 1) rfl ?_); refine box_event ?hg (N := 1) ?hd (cs := #[.string a0_0, .int .i64 a0_1, .int .i64 a0_2]) (t := 39) ?hr ?_; (case hd => rfl); (case hg => rfl); (case hr => first | (go_simp; done) | (go_simp; rfl)); intro gb103 hg w13 hbox hb; have BK103 := Aside0.mk (hbox); have GW103 := Aside0.mk ((by rw [hg]; exact (below_size (by repeat (first | (with_reducible first | exact HB.out | apply below_alloc | apply pw_below_drewN | apply below_drew1) | exact HB.out))) : w.heap.size ≤ gb103)); have GE103 := Aside0.mk ((by rw [hg]; exact (below_size (by repeat (first | (with_reducible first | exact HB.out | apply below_alloc | apply pw_below_drewN | apply below_drew1) | exact HB.out))) : w.heap.size ≤ gb103)); replace HB := Aside0.mk (below_step (by repeat (first | (with_reducible first | exact HB.out | apply below_alloc | apply pw_below_drewN | apply below_drew1) | exact HB.out)) hb); clear hb hbox hg; obtain ⟨hcz14_0, hcz14_1, hcz14_2, hfz14_0, hfz14_1, hfz14_2⟩ := blk3 BK103.out) | ((with_reducible refine gate_callee (f := 32) rfl ?_); refine goesL_ (some 5) rfl rfl Tryd.func32 (by kernel_rfl) rfl #[.agg #[.string a0_0, .int .i64 a0_1, .int .i64 a0_2]] rfl (by (try simp only [List.map_toArray, List.map_cons, List.map_nil]); first | done | rfl | (simp only [List.length_drop, List.length_take]; rfl)) ?_; (with_reducible refine (sign_may.calls a0_0 a0_1 a0_2 false _ A2.out).mono ?_); rintro e w15 ⟨rfl, hb⟩; refine ⟨_, rfl, ?_⟩; replace BK103 := Aside0.mk (blk_below (by (with_reducible repeat (first | refine blk_drewN ?_ _ | refine blk_drew ?_ | refine blk_alloc ?_ _)); exact BK103.out) hb); replace HB := Aside0.mk (below_step (by repeat (first | (with_reducible first | exact HB.out | apply below_alloc | apply pw_below_drewN | apply below_drew1 | refine below_set ?_ GE103.out) | exact HB.out)) hb); (try clear hb); (try clear hb2); (try clear hk); (try clear hi)))
  go_ret
  exact ⟨by first | rfl | (simp [errW_none, errW_some] <;> rfl) | (simp [*, errW_none, errW_some] <;> rfl), by repeat (first | (with_reducible first | exact HB.out | apply below_alloc | apply pw_below_drewN | apply below_drew1 | refine below_set ?_ GE103.out) | exact HB.out)⟩

/-! ### sign_Total: function 19 -/
def sign_Total.l0 : Nat → Int → List (S39) → Int → Int → Option (Int)
 | 0, _, _, _, _ => none
 | k + 1, x3, x6, x7, x8 => if x8 < x7 then (if 0 ≤ x8 then (if x8 < (x6.length : Int) then ((sign_Numbers.f ((rd_T39 x6 x8).f0) ((rd_T39 x6 x8).f1) ((rd_T39 x6 x8).f2)).bind fun t107 => (sign_Total.l0 k (wrap64 (x3 + t107)) x6 x7 (wrap64 (x8 + 1)))) else (none)) else (none)) else (some x3)
def sign_Total.f (k : Nat) (l0 : List (S39)) : Option (Int) := sign_Total.l0 k 0 l0 (l0.length : Int) 0
theorem sign_Total.mono_l : ∀ k, (∀ y0 y1 y2 y3, LeO (sign_Total.l0 k y0 y1 y2 y3) (sign_Total.l0 (k + 1) y0 y1 y2 y3))
 | 0 => fun _ _ _ _ r h => by simp [sign_Total.l0] at h
 | k + 1 => by
  have ih0 := sign_Total.mono_l k
  ·intro y0 y1 y2 y3
   unfold sign_Total.l0
   repeat' first
   | (with_reducible exact ih0 _ _ _ _)
   | (with_reducible exact LeO.refl _)
   | (with_reducible exact LeO.none _)
   | (with_reducible refine LeO.ite ?_ ?_)
   | (with_reducible refine LeO.bind ?_ (fun _ => ?_))
   | exact LeO.none _
   | refine LeO.ite ?_ ?_
   | refine LeO.bind ?_ (fun _ => ?_)
theorem sign_Total.mono : ∀ a0 k, LeO (sign_Total.f k a0) (sign_Total.f (k + 1) a0) := by
 intro a0 k
 have ih0 := sign_Total.mono_l k
 unfold sign_Total.f
 repeat' first
   | (with_reducible exact ih0 _ _ _ _)
   | (with_reducible exact LeO.refl _)
   | (with_reducible exact LeO.none _)
   | (with_reducible refine LeO.ite ?_ ?_)
   | (with_reducible refine LeO.bind ?_ (fun _ => ?_))
   | exact LeO.none _
   | refine LeO.ite ?_ ?_
   | refine LeO.bind ?_ (fun _ => ?_)
set_option maxHeartbeats 8000000 in
set_option maxRecDepth 100000 in
theorem sign_Total.calls (k : Nat) (A0 : Option Addr) (c0 : Nat) (l0 : List (S39)) (r : Int) (w : World) (hr0 : Kd.C k39 w A0 l0.length l0) (hc0 : l0.length ≤ c0) (h : sign_Total.f k l0 = some r) :
  Calls Tryd.prog 19 #[.slice A0 l0.length c0] w fun e w' => e = .returned (.int .i64 r) ∧ Below w.heap.size w w' := by
 have hu39 := Tryd.underlying39
 have HR0 := Aside0.mk hr0
 have HC0 := Aside0.mk hc0
 clear hr0 hc0
 have HB := Aside0.mk (Below.refl w.heap.size w)
 have H : (sign_Total.l0 k 0 l0 (l0.length : Int) 0) = some r := h
 clear h
 have H' := Aside0.mk H
 clear H
 go_enter Tryd.func19, Tryd.ntmps19
 go_wp2
 go_loopg [3, 8] k (fun kq v3 v8 w' => ∃ (x3_1 : Int) (x8_1 : Int), v3 = .int .i64 x3_1 ∧ v8 = .int .i64 x8_1 ∧ Aside0 (sign_Total.l0 kq x3_1 l0 (l0.length : Int) x8_1 = some r) ∧ Aside0 (kq ≤ k) ∧ Aside0 (Below w.heap.size w w'))
 case atStart => exact ⟨(0), (0), (by first | rfl | (simp; done) | (simp [*]; done) | (simp; exact (fun l : List UInt8 => (by cases l <;> rfl : l.isEmpty = !(l != []))) _)), (by first | rfl | (simp; done) | (simp [*]; done) | (simp; exact (fun l : List UInt8 => (by cases l <;> rfl : l.isEmpty = !(l != []))) _)), H', ⟨Nat.le_refl _⟩, ⟨by repeat (first | (with_reducible first | exact HB.out | apply below_alloc | apply pw_below_drewN | apply below_drew1) | exact HB.out)⟩⟩
 case round =>
  clear H'
  try clear c1
  obtain ⟨x3_1, x8_1, rfl, rfl, HA, HK1, HB⟩ := hrel
  cases gk with
  | zero => exact absurd HA.out (by simp [sign_Total.l0])
  | succ k1 =>
   have H := HA.out
   clear HA
   simp only [sign_Total.l0] at H
   by_cases c2 : x8_1 < (l0.length : Int)
   ·rw [if_pos c2] at H
    have c2b0 : decide (x8_1 < (l0.length : Int)) = true := decide_eq_true c2
    clear c2
    by_cases c3 : 0 ≤ x8_1
    case neg => rw [if_neg c3] at H; exact absurd H (by simp)
    rw [if_pos c3] at H
    have c3b0 : decide (0 ≤ x8_1) = true := decide_eq_true c3
    clear c3
    by_cases c4 : x8_1 < (l0.length : Int)
    case neg => rw [if_neg c4] at H; exact absurd H (by simp)
    rw [if_pos c4] at H
    have c4b0 : decide (x8_1 < (l0.length : Int)) = true := decide_eq_true c4
    clear c4
    replace H := Option.bind_eq_some_iff.mp H
    obtain ⟨t107, A50, H⟩ := H
    replace H : (sign_Total.l0 k1 (wrap64 (x3_1 + t107)) l0 (l0.length : Int) (wrap64 (x8_1 + 1))) = some r := H
    have A5 := Aside0.mk A50
    clear A50
    have H' := Aside0.mk H
    clear H
    have p105 : 0 ≤ (x8_1 : Int) := of_decide_eq_true (by first | (with_reducible assumption) | assumption)
    have q105 : x8_1 < (l0.length : Int) := of_decide_eq_true (by first | (with_reducible assumption) | assumption)
    obtain ⟨ad105, e105, hx105_0, hx105_1, hx105_2⟩ := at_T39 HR0.out x8_1 p105 q105
    cases e105
    replace hx105_0 := (HB.out.cell (World.block_lt_of_cell? w _ hx105_0)).trans hx105_0
    replace hx105_1 := (HB.out.cell (World.block_lt_of_cell? w _ hx105_1)).trans hx105_1
    replace hx105_2 := (HB.out.cell (World.block_lt_of_cell? w _ hx105_2)).trans hx105_2
    replace p105 := eq_true p105
    replace q105 := eq_true q105
    go_wp2_with (first | ((with_reducible refine gate_dst (N := 5) rfl ?_); refine box_event ?hg (N := 5) ?hd (cs := #[.string (⟨#[]⟩ : ByteArray), .int .i64 0, .int .i64 0]) (t := 39) ?hr ?_; (case hd => rfl); (case hg => rfl); (case hr => first | (go_simp; done) | (go_simp; rfl)); intro gb106 hg w6 hbox hb; have BK106 := Aside0.mk (hbox); have GW106 := Aside0.mk ((by rw [hg]; exact (below_size (by repeat (first | (with_reducible first | exact HB.out | apply below_alloc | apply pw_below_drewN | apply below_drew1) | exact HB.out))) : w.heap.size ≤ gb106)); have GE106 := Aside0.mk ((by rw [hg]; exact (below_size (by repeat (first | (with_reducible first | exact HB.out | apply below_alloc | apply pw_below_drewN | apply below_drew1) | exact HB.out))) : w.heap.size ≤ gb106)); replace HB := Aside0.mk (below_step (by repeat (first | (with_reducible first | exact HB.out | apply below_alloc | apply pw_below_drewN | apply below_drew1) | exact HB.out)) hb); clear hb hbox hg; obtain ⟨hcz7_0, hcz7_1, hcz7_2, hfz7_0, hfz7_1, hfz7_2⟩ := blk3 BK106.out) | ((with_reducible refine gate_callee (f := 21) rfl ?_); refine goesL_ (some 14) rfl rfl Tryd.func21 (by kernel_rfl) rfl #[.agg #[.string ((rd_T39 l0 x8_1).f0), .int .i64 ((rd_T39 l0 x8_1).f1), .int .i64 ((rd_T39 l0 x8_1).f2)]] rfl (by (try simp only [List.map_toArray, List.map_cons, List.map_nil]); first | done | rfl | (simp only [List.length_drop, List.length_take]; rfl)) ?_; (with_reducible refine (sign_Numbers.calls ((rd_T39 l0 x8_1).f0) ((rd_T39 l0 x8_1).f1) ((rd_T39 l0 x8_1).f2) t107 _ A5.out).mono ?_); rintro e w8 ⟨rfl, hb⟩; refine ⟨_, rfl, ?_⟩; replace BK106 := Aside0.mk (blk_below (g := gb106) (o := .cells #[.string ((rd_T39 l0 x8_1).f0), .int .i64 ((rd_T39 l0 x8_1).f1), .int .i64 ((rd_T39 l0 x8_1).f2)] 39 (0, 0)) (by (with_reducible repeat (first | refine blk_drewN ?_ _ | refine blk_drew ?_ | refine blk_alloc ?_ _)); refine blk_put (cs := #[.string ((rd_T39 l0 x8_1).f0), .int .i64 ((rd_T39 l0 x8_1).f1), .int .i64 0]) ?_ 2 _ rfl; refine blk_put (cs := #[.string ((rd_T39 l0 x8_1).f0), .int .i64 0, .int .i64 0]) ?_ 1 _ rfl; refine blk_put (cs := #[.string (⟨#[]⟩ : ByteArray), .int .i64 0, .int .i64 0]) ?_ 0 _ rfl; (with_reducible repeat (first | refine blk_drewN ?_ _ | refine blk_drew ?_ | refine blk_alloc ?_ _)); exact BK106.out) hb); replace HB := Aside0.mk (below_step (by repeat (first | (with_reducible first | exact HB.out | apply below_alloc | apply pw_below_drewN | apply below_drew1 | refine below_set ?_ GE106.out) | exact HB.out)) hb); (try clear hb); (try clear hb2); (try clear hk); (try clear hi)))
    go_roundg k1
    case measure => have := HK1.out; omega
    case rel => exact ⟨(wrap64 (x3_1 + t107)), (wrap64 (x8_1 + 1)), (by first | rfl | (simp; done) | (simp [*]; done) | (simp; exact (fun l : List UInt8 => (by cases l <;> rfl : l.isEmpty = !(l != []))) _)), (by first | rfl | (simp; done) | (simp [*]; done) | (simp; exact (fun l : List UInt8 => (by cases l <;> rfl : l.isEmpty = !(l != []))) _)), H', ⟨by have := HK1.out; omega⟩, ⟨by repeat (first | (with_reducible first | exact HB.out | apply below_alloc | apply pw_below_drewN | apply below_drew1 | refine below_set ?_ GE106.out) | exact HB.out)⟩⟩
   ·rw [if_neg c2] at H
    have c2b0 : decide (x8_1 < (l0.length : Int)) = false := decide_eq_false c2
    clear c2
    obtain rfl := Option.some.inj H
    go_wp2
    go_ret
    exact ⟨by first | rfl | (simp [errW_none, errW_some] <;> rfl) | (simp [*, errW_none, errW_some] <;> rfl), by repeat (first | (with_reducible first | exact HB.out | apply below_alloc | apply pw_below_drewN | apply below_drew1) | exact HB.out)⟩

/-! ### sign_Check: function 15 -/
def sign_Check.l0 : Nat → List (S39) → Int → List (List UInt8) → Option Int
 | 0, _, _, _ => none
 | k + 1, l, i, seen => if i < (l.length : Int) then ((sign_may.f (rd_T39 l i).f0 (rd_T39 l i).f1 (rd_T39 l i).f2).bind fun b => if b = true then sign_Check.l0 k l (i + 1) (if (rd_T39 l i).f0.data.toList ∈ seen then seen else (rd_T39 l i).f0.data.toList :: seen) else some 100)
  else if (seen.length : Int) < (l.length : Int) then some 101 else ((sign_Total.f k l).bind fun t => if t > 65536 then some 102 else some 0)
def sign_Check.f (k : Nat) (l0 : List (S39)) : Option Int := if (l0.length : Int) > 64 then some 2 else sign_Check.l0 k l0 0 []
theorem sign_Check.mono_l : ∀ k l i s, LeO (sign_Check.l0 k l i s) (sign_Check.l0 (k + 1) l i s)
 | 0, _, _, _ => fun r h => by simp [sign_Check.l0] at h
 | k + 1, l, i, s => by
  unfold sign_Check.l0
  exact LeO.ite (LeO.bind (LeO.refl _) (fun _ => LeO.ite (sign_Check.mono_l k _ _ _) (LeO.refl _))) (LeO.ite (LeO.refl _) (LeO.bind (sign_Total.mono _ _) (fun _ => LeO.refl _)))
theorem sign_Check.mono : ∀ l0 k, LeO (sign_Check.f k l0) (sign_Check.f (k + 1) l0) := fun _ _ => LeO.ite (LeO.refl _) (sign_Check.mono_l _ _ _ _)
theorem sign_may.short {a : ByteArray} {b c : Int} (h : sign_may.f a b c = some true) : a.size ≤ 64 := by
 unfold sign_may.f sign_name.f at h
 simp only [Option.bind_some] at h
 by_cases hn : (decide (a.toList ≠ []) && decide (a.size ≤ 64) && (bytesOf a).all sign_name.okb) = true
 ·simp only [Bool.and_eq_true, decide_eq_true_eq] at hn
  exact hn.1.2
 ·rw [if_neg hn] at h
  exact absurd (Option.some.inj h) (by decide)
theorem sign_Check.map_below {H : Type} {P : Program} {k : TypeId} {R : Value → Option (DataW H × List MemPlace)} {b n : Nat} {D : DataW H} {w w' : World} (h : w.ownsMap P k R b n D) (hb : Below w.heap.size w w') : w'.ownsMap P k R b n D := by
 have hl := h.lt
 obtain ⟨es, clock, h1, r⟩ := h
 exact ⟨es, clock, (hb.block b hl).trans h1, r⟩
theorem sign_Check.step {D : DataW Unit} {seen : List (List UInt8)} {n : Nat} {W : World} {b : Nat} {d : DataW Unit} (hD : W.ownsMap Tryd.prog 9 (plainElem Tryd.prog 3) b n D) (hs : Maps.size D = seen.length) (hh : ∀ s : List UInt8, Maps.has D (.string s) = decide (s ∈ seen)) (x : List UInt8) :
  Maps.size (D.put (.string x) d) = (if x ∈ seen then seen else x :: seen).length ∧ ∀ s : List UInt8, Maps.has (D.put (.string x) d) (.string s) = decide (s ∈ (if x ∈ seen then seen else x :: seen)) := by
 have hT := hD.tidy (Maps.string_keyed Tryd.underlying9)
 refine ⟨?_, fun s => ?_⟩
 ·rw [Maps.size_put hT, hh x, hs]
  by_cases h : x ∈ seen
  ·rw [if_pos h, if_pos (decide_eq_true h)]
  ·rw [if_neg h, if_neg (by simp [h])]
   rfl
 ·by_cases e : s = x
  ·subst e
   rw [Maps.has_put_same hD.isMap (by first | trivial | rfl)]
   symm
   refine decide_eq_true ?_
   split
   ·assumption
   ·exact List.mem_cons_self
  ·rw [Maps.has_put_other (fun h => e (by injection h)), hh s]
   by_cases h : x ∈ seen
   ·rw [if_pos h]
   ·rw [if_neg h]
    simp [e]
set_option maxHeartbeats 8000000 in
set_option maxRecDepth 100000 in
theorem sign_Check.calls (k : Nat) (A0 : Option Addr) (c0 : Nat) (l0 : List (S39)) (r : Int) (w : World) (hr0 : Kd.C k39 w A0 l0.length l0) (hc0 : l0.length ≤ c0) (h : sign_Check.f k l0 = some r) :
  Calls Tryd.prog 15 #[.slice A0 l0.length c0] w fun e w' => e = .returned (.int .i64 r) ∧ Below w.heap.size w w' := by
 have hu39 := Tryd.underlying39
 have HR0 := Aside0.mk hr0
 have HC0 := Aside0.mk hc0
 clear hr0 hc0
 unfold sign_Check.f at h
 by_cases h1 : (l0.length : Int) > 64
 ·rw [if_pos h1] at h
  obtain rfl := Option.some.inj h
  have c1 : decide (64 < (l0.length : Int)) = true := decide_eq_true h1
  have c2 : decide (64 < l0.length) = true := decide_eq_true (by omega)
  clear h1 h
  go_enter Tryd.func15, Tryd.ntmps15
  go_wp2
  go_ret
  exact ⟨rfl, Below.refl _ _⟩
 rw [if_neg h1] at h
 have hlen : l0.length ≤ 64 := by omega
 have c1 : decide (64 < (l0.length : Int)) = false := decide_eq_false h1
 have c2 : decide (64 < l0.length) = false := decide_eq_false (by omega)
 have H' := Aside0.mk h
 clear h1 h
 have hmm := @run_makeMap Tryd.prog
 have zeroE : ∀ w : World, (zeroValue 3).run Tryd.prog w = .ok (.int .i64 0) w := fun _ => by kernel_rfl
 have ZE := Aside0.mk zeroE
 clear zeroE
 go_enter Tryd.func15, Tryd.ntmps15
 go_wp2
 go_loopg [12, 5] k (fun kq v12 _ w' => ∃ (i : Nat) (seen : List (List UInt8)) (D : DataW Unit) (n : Nat), v12 = .int .i64 (i : Int) ∧ i ≤ l0.length ∧ n ≤ i ∧ Aside0 (w'.ownsMap Tryd.prog 9 (plainElem Tryd.prog 3) w.heap.size n D) ∧ Aside0 (Maps.size D = seen.length) ∧ Aside0 (∀ s : List UInt8, Maps.has D (.string s) = decide (s ∈ seen)) ∧ Aside0 (sign_Check.l0 kq l0 (i : Int) seen = some r) ∧ Aside0 (kq ≤ k) ∧ Aside0 (Below w.heap.size w w'))
 case atStart => exact ⟨0, [], .map [], 0, rfl, Nat.zero_le _, Nat.le_refl _, ⟨World.ownsMap_made _ _ _ _⟩, ⟨rfl⟩, ⟨fun s => by simp [Maps.has]⟩, H', ⟨Nat.le_refl _⟩, ⟨below_alloc (Below.refl _ _) _⟩⟩
 case round =>
  clear H'
  obtain ⟨i, seen, D, n, rfl, hi, hn, HM, HS, HH, HA, HK1, HB⟩ := hrel
  cases gk with
  | zero => exact absurd HA.out (by simp [sign_Check.l0])
  | succ k1 =>
   have H := HA.out
   clear HA
   simp only [sign_Check.l0] at H
   by_cases hlt : i < l0.length
   ·rw [if_pos (by omega)] at H
    obtain ⟨b, A10, H⟩ := Option.bind_eq_some_iff.mp H
    have A1 := Aside0.mk A10
    clear A10
    obtain ⟨ad, e0, hx0, hx1, hx2⟩ := at_T39 HR0.out (i : Int) (by omega) (by omega)
    cases e0
    replace hx0 := (HB.out.cell (World.block_lt_of_cell? w _ hx0)).trans hx0
    replace hx1 := (HB.out.cell (World.block_lt_of_cell? w _ hx1)).trans hx1
    replace hx2 := (HB.out.cell (World.block_lt_of_cell? w _ hx2)).trans hx2
    rw [Int.toNat_natCast] at hx0 hx1 hx2
    have HX := Aside0.mk (Below.refl wr.heap.size wr)
    cases b with
    | false =>
     have H1 : r = 100 := by rw [if_neg (by decide)] at H; exact (Option.some.inj H).symm
     subst H1
     clear H
     go_wp2_with (first | ((with_reducible refine gate_dst (N := 5) rfl ?_); refine box_event ?hg (N := 5) ?hd (cs := #[.string (⟨#[]⟩ : ByteArray), .int .i64 0, .int .i64 0]) (t := 39) ?hr ?_; (case hd => rfl); (case hg => rfl); (case hr => first | (go_simp; done) | (go_simp; rfl)); intro gb hg w6 hbox hb; have BK := Aside0.mk (hbox); have GX : Aside0 (wr.heap.size ≤ gb) := ⟨by rw [hg]; exact Nat.le_refl _⟩; have GE : Aside0 (w.heap.size ≤ gb) := ⟨Nat.le_trans HB.out.size GX.out⟩; replace HB := Aside0.mk (below_step HB.out hb); replace HX := Aside0.mk hb; clear hb hbox hg; obtain ⟨hcz0, hcz1, hcz2, hfz0, hfz1, hfz2⟩ := blk3 BK.out) | ((with_reducible refine gate_callee (f := 32) rfl ?_); refine goesL_ (some 17) rfl rfl Tryd.func32 (by kernel_rfl) rfl #[.agg #[.string ((rd_T39 l0 (i : Int)).f0), .int .i64 ((rd_T39 l0 (i : Int)).f1), .int .i64 ((rd_T39 l0 (i : Int)).f2)]] rfl (by (try simp only [List.map_toArray, List.map_cons, List.map_nil]); first | done | rfl) ?_; (with_reducible refine (sign_may.calls ((rd_T39 l0 (i : Int)).f0) ((rd_T39 l0 (i : Int)).f1) ((rd_T39 l0 (i : Int)).f2) _ _ A1.out).mono ?_); rintro e w8 ⟨rfl, hb⟩; refine ⟨_, rfl, ?_⟩; replace BK := Aside0.mk (blk_below (g := gb) (o := .cells #[.string ((rd_T39 l0 (i : Int)).f0), .int .i64 ((rd_T39 l0 (i : Int)).f1), .int .i64 ((rd_T39 l0 (i : Int)).f2)] 39 (0, 0)) (by (with_reducible repeat (first | refine blk_drewN ?_ _ | refine blk_drew ?_ | refine blk_alloc ?_ _)); refine blk_put (cs := #[.string ((rd_T39 l0 (i : Int)).f0), .int .i64 ((rd_T39 l0 (i : Int)).f1), .int .i64 0]) ?_ 2 _ rfl; refine blk_put (cs := #[.string ((rd_T39 l0 (i : Int)).f0), .int .i64 0, .int .i64 0]) ?_ 1 _ rfl; refine blk_put (cs := #[.string (⟨#[]⟩ : ByteArray), .int .i64 0, .int .i64 0]) ?_ 0 _ rfl; (with_reducible repeat (first | refine blk_drewN ?_ _ | refine blk_drew ?_ | refine blk_alloc ?_ _)); exact BK.out) hb); replace HB := Aside0.mk (below_step (by repeat (first | (with_reducible first | exact HB.out | apply below_alloc | apply pw_below_drewN | apply below_drew1 | refine below_set ?_ GE.out) | exact HB.out)) hb); replace HX := Aside0.mk (below_step (by repeat (first | (with_reducible first | exact HX.out | apply below_alloc | apply pw_below_drewN | apply below_drew1 | refine below_set ?_ GX.out) | exact HX.out)) hb); replace HM := Aside0.mk (sign_Check.map_below HM.out HX.out); clear hb; obtain ⟨hcz0, hcz1, hcz2, hfz0, hfz1, hfz2⟩ := blk3 BK.out))
     go_ret
     exact ⟨rfl, by repeat (first | (with_reducible first | exact HB.out | apply below_alloc | apply pw_below_drewN | apply below_drew1 | refine below_set ?_ GE.out) | exact HB.out)⟩
    | true =>
     have H1 : sign_Check.l0 k1 l0 ((i : Int) + 1) (if (rd_T39 l0 (i : Int)).f0.data.toList ∈ seen then seen else (rd_T39 l0 (i : Int)).f0.data.toList :: seen) = some r := by rw [if_pos rfl] at H; exact H
     have H' := Aside0.mk H1
     have hshort := sign_may.short A1.out
     clear H H1
     have hkey : keyOf Tryd.prog 9 (.string (rd_T39 l0 (i : Int)).f0) = some (.string (rd_T39 l0 (i : Int)).f0.data.toList) := WideMaps.keyOf_string_mk Tryd.underlying9 (by unfold maxLen; omega)
     have HKEY := Aside0.mk hkey
     clear hkey
     go_wp2_with (first | ((with_reducible refine gate_dst (N := 5) rfl ?_); refine box_event ?hg (N := 5) ?hd (cs := #[.string (⟨#[]⟩ : ByteArray), .int .i64 0, .int .i64 0]) (t := 39) ?hr ?_; (case hd => rfl); (case hg => rfl); (case hr => first | (go_simp; done) | (go_simp; rfl)); intro gb hg w6 hbox hb; have BK := Aside0.mk (hbox); have GX : Aside0 (wr.heap.size ≤ gb) := ⟨by rw [hg]; exact Nat.le_refl _⟩; have GE : Aside0 (w.heap.size ≤ gb) := ⟨Nat.le_trans HB.out.size GX.out⟩; replace HB := Aside0.mk (below_step HB.out hb); replace HX := Aside0.mk hb; clear hb hbox hg; obtain ⟨hcz0, hcz1, hcz2, hfz0, hfz1, hfz2⟩ := blk3 BK.out) | ((with_reducible refine gate_callee (f := 32) rfl ?_); refine goesL_ (some 17) rfl rfl Tryd.func32 (by kernel_rfl) rfl #[.agg #[.string ((rd_T39 l0 (i : Int)).f0), .int .i64 ((rd_T39 l0 (i : Int)).f1), .int .i64 ((rd_T39 l0 (i : Int)).f2)]] rfl (by (try simp only [List.map_toArray, List.map_cons, List.map_nil]); first | done | rfl) ?_; (with_reducible refine (sign_may.calls ((rd_T39 l0 (i : Int)).f0) ((rd_T39 l0 (i : Int)).f1) ((rd_T39 l0 (i : Int)).f2) _ _ A1.out).mono ?_); rintro e w8 ⟨rfl, hb⟩; refine ⟨_, rfl, ?_⟩; replace BK := Aside0.mk (blk_below (g := gb) (o := .cells #[.string ((rd_T39 l0 (i : Int)).f0), .int .i64 ((rd_T39 l0 (i : Int)).f1), .int .i64 ((rd_T39 l0 (i : Int)).f2)] 39 (0, 0)) (by (with_reducible repeat (first | refine blk_drewN ?_ _ | refine blk_drew ?_ | refine blk_alloc ?_ _)); refine blk_put (cs := #[.string ((rd_T39 l0 (i : Int)).f0), .int .i64 ((rd_T39 l0 (i : Int)).f1), .int .i64 0]) ?_ 2 _ rfl; refine blk_put (cs := #[.string ((rd_T39 l0 (i : Int)).f0), .int .i64 0, .int .i64 0]) ?_ 1 _ rfl; refine blk_put (cs := #[.string (⟨#[]⟩ : ByteArray), .int .i64 0, .int .i64 0]) ?_ 0 _ rfl; (with_reducible repeat (first | refine blk_drewN ?_ _ | refine blk_drew ?_ | refine blk_alloc ?_ _)); exact BK.out) hb); replace HB := Aside0.mk (below_step (by repeat (first | (with_reducible first | exact HB.out | apply below_alloc | apply pw_below_drewN | apply below_drew1 | refine below_set ?_ GE.out) | exact HB.out)) hb); replace HX := Aside0.mk (below_step (by repeat (first | (with_reducible first | exact HX.out | apply below_alloc | apply pw_below_drewN | apply below_drew1 | refine below_set ?_ GX.out) | exact HX.out)) hb); replace HM := Aside0.mk (sign_Check.map_below HM.out HX.out); clear hb; obtain ⟨hcz0, hcz1, hcz2, hfz0, hfz1, hfz2⟩ := blk3 BK.out) | (at_lookup; refine wpList_lookup_own_int _ rfl _ _ 63 rfl 9 3 .i64 (Maps.string_keyed Tryd.underlying9) Tryd.underlying63 Tryd.underlying3 (ZE.out _) w.heap.size n D rfl HM.out _ _ rfl HKEY.out ?_; intro c hat hwc) | (at_mapUpdate; refine wpList_mapUpdate_own _ rfl _ _ _ 63 rfl 9 3 (Maps.string_keyed Tryd.underlying9) Tryd.underlying63 _ w.heap.size n D rfl HM.out (by unfold maxLen; omega) _ _ _ rfl rfl HKEY.out _ [] (plainElem_int Tryd.underlying3 (wrap64_wf _)) ?_; intro w9 hown9 hgrow9))
     have HST := sign_Check.step (d := .lit (.int .i64 (wrap64 (c + 1)))) HM.out HS.out HH.out (rd_T39 l0 (i : Int)).f0.data.toList
     have HM9 := Aside0.mk hown9
     have HS9 := Aside0.mk HST.1
     have HH9 := Aside0.mk HST.2
     have HB9 := Aside0.mk (HB.out.grown hgrow9 HB.out.size (fun j hj => by cases hj; exact Nat.le_refl _))
     clear hown9 hgrow9 HST hat
     go_roundg k1
     case measure => have := HK1.out; omega
     case rel => exact ⟨i + 1, _, _, n + 1, by go_num, by omega, by omega, HM9, HS9, HH9, by rw [show ((i + 1 : Nat) : Int) = (i : Int) + 1 from by omega]; exact H', ⟨by have := HK1.out; omega⟩, HB9⟩
   ·rw [if_neg (by omega)] at H
    have hin : i = l0.length := by omega
    have hsz := HS.out
    by_cases hd : (seen.length : Int) < (l0.length : Int)
    ·rw [if_pos hd] at H
     obtain rfl := Option.some.inj H
     have d1 : decide ((Maps.size D : Int) < (l0.length : Int)) = true := decide_eq_true (by omega)
     have d2 : decide (Maps.size D < l0.length) = true := decide_eq_true (by omega)
     clear hsz hd H
     go_wp2_with (first | ((with_reducible refine gate_dst (N := 27) rfl ?_); refine wpList_len_own _ rfl _ 63 rfl 9 3 Tryd.underlying63 _ w.heap.size n D rfl HM.out ?_))
     go_ret
     exact ⟨rfl, HB.out⟩
    ·rw [if_neg hd] at H
     obtain ⟨t, A10, H⟩ := Option.bind_eq_some_iff.mp H
     have A1 := Aside0.mk A10
     clear A10
     have d1 : decide ((Maps.size D : Int) < (l0.length : Int)) = false := decide_eq_false (by omega)
     have d2 : decide (Maps.size D < l0.length) = false := decide_eq_false (by omega)
     clear hsz hd
     have HRW := Aside0.mk (Kd.C_below HR0.out HB.out)
     by_cases ht : t > 65536
     ·rw [if_pos ht] at H
      obtain rfl := Option.some.inj H
      have d3 : decide (65536 < t) = true := decide_eq_true ht
      clear H ht
      go_wp2_with (first | ((with_reducible refine gate_dst (N := 27) rfl ?_); refine wpList_len_own _ rfl _ 63 rfl 9 3 Tryd.underlying63 _ w.heap.size n D rfl HM.out ?_) | ((with_reducible refine gate_callee (f := 19) rfl ?_); refine goesL_ (some 33) rfl rfl Tryd.func19 (by kernel_rfl) rfl #[.slice A0 l0.length c0] rfl (by (try simp only [List.map_toArray, List.map_cons, List.map_nil]); first | done | rfl) ?_; refine (sign_Total.calls k1 A0 c0 l0 t _ HRW.out HC0.out A1.out).mono ?_; rintro e w8 ⟨rfl, hb⟩; refine ⟨_, rfl, ?_⟩; replace HB := Aside0.mk (below_step HB.out hb); clear hb))
      go_ret
      exact ⟨rfl, HB.out⟩
     ·rw [if_neg ht] at H
      obtain rfl := Option.some.inj H
      have d3 : decide (65536 < t) = false := decide_eq_false ht
      clear H ht
      go_wp2_with (first | ((with_reducible refine gate_dst (N := 27) rfl ?_); refine wpList_len_own _ rfl _ 63 rfl 9 3 Tryd.underlying63 _ w.heap.size n D rfl HM.out ?_) | ((with_reducible refine gate_callee (f := 19) rfl ?_); refine goesL_ (some 33) rfl rfl Tryd.func19 (by kernel_rfl) rfl #[.slice A0 l0.length c0] rfl (by (try simp only [List.map_toArray, List.map_cons, List.map_nil]); first | done | rfl) ?_; refine (sign_Total.calls k1 A0 c0 l0 t _ HRW.out HC0.out A1.out).mono ?_; rintro e w8 ⟨rfl, hb⟩; refine ⟨_, rfl, ?_⟩; replace HB := Aside0.mk (below_step HB.out hb); clear hb))
      go_ret
      exact ⟨rfl, HB.out⟩

-- NOT PRINTED: function 50 (utf8_RuneCountInString)

-- NOT PRINTED: function 64 (utf8_decodeRuneInStringSlow)

-- NOT PRINTED: function 51 (utf8_DecodeRuneInString)

-- NOT PRINTED: function 42 (strings_explode)

-- NOT PRINTED: function 65 (bytealg_IndexString)

-- NOT PRINTED: function 66 (bytealg_Cutover)

-- NOT PRINTED: function 77 (bytealg_hashStr_string)

-- NOT PRINTED: function 67 (bytealg_IndexRabinKarp_string)

-- NOT PRINTED: function 53 (stringslite_Index)

-- NOT PRINTED: function 44 (strings_Index)

-- NOT PRINTED: function 52 (bytealg_CountString)

-- NOT PRINTED: function 43 (strings_Count)

-- NOT PRINTED: function 34 (strings_genSplit)

/-! ### strings_Split: function 25 -/
def strings_Split.f (a0 a1 : ByteArray) : Option (List ByteArray) := if a0.size < 4294967281 then (if 1 ≤ a1.size then some (Lib.splitB a1 0 (Lib.countB a0 a1) a0) else none) else none
theorem strings_Split.calls (a0 a1 : ByteArray) (r : List ByteArray) (w : World) (gl_ : Glob w) (h : strings_Split.f a0 a1 = some r) :
  Calls Tryd.prog 25 #[.string a0, .string a1] w fun e w' => ∃ v0_ : Value, e = .returned (v0_) ∧ Kd.R Kd.string 9 w' w.heap.size (fun _ => True) v0_ r ∧ Below w.heap.size w w' := by
 unfold strings_Split.f at h
 by_cases h1 : a0.size < 4294967281
 case neg => rw [if_neg h1] at h; cases h
 rw [if_pos h1] at h
 by_cases h2 : 1 ≤ a1.size
 case neg => rw [if_neg h2] at h; cases h
 rw [if_pos h2] at h
 obtain rfl := Option.some.inj h
 obtain ⟨m, hm⟩ := gl_.maxLen
 refine (Tryd.strings_Split a0 a1 m w h1 hm h2).mono ?_
 rintro e w' ⟨rfl, rfl⟩
 have hl := Lib.splitB_all a1 h2 0 _ a0 rfl
 have hn := Lib.countB_le a1 h2 a0.size a0 (Nat.le_refl _)
 refine ⟨_, rfl, Kd.R_of_own ?_ (fun _ _ => trivial), below_alloc (Below.refl _ _) _⟩
 have := World.ownsRow_lit (base := w.heap.size) (e := 9) (size := 1) w (encs Value.string (Lib.splitB a1 0 (Lib.countB a0 a1) a0)).toArray (Lib.splitB a1 0 (Lib.countB a0 a1) a0).length (Nat.le_refl _) (by rw [hl]; unfold maxLen; omega) (by simp [encs])
 rw [hl] at this ⊢
 simpa [encs] using this

-- NOT PRINTED: function 59 (strconv_small)

-- NOT PRINTED: function 71 (strconv_log10Pow2)

-- NOT PRINTED: function 72 (bits_Len64)

-- NOT PRINTED: function 73 (strconv_bool2_int)

-- NOT PRINTED: function 60 (strconv_numDigits)

-- NOT PRINTED: function 61 (strconv_formatBase10)

-- NOT PRINTED: function 74 (strconv_isPowerOfTwo)

-- NOT PRINTED: function 80 (bits_TrailingZeros32)

-- NOT PRINTED: function 81 (bits_TrailingZeros64)

-- NOT PRINTED: function 75 (bits_TrailingZeros)

-- NOT PRINTED: function 62 (strconv_formatBits)

-- NOT PRINTED: function 48 (strconv_FormatInt)

-- NOT PRINTED: function 39 (strconv_Itoa_39)

-- NOT PRINTED: function 29 (strconv_Itoa_29)

-- NOT PRINTED: function 78 (strconv_lower)

-- NOT PRINTED: function 79 (strconv_underscoreOK)

-- NOT PRINTED: function 68 (strconv_ParseUint)

-- NOT PRINTED: function 54 (strconv_ParseInt)

-- NOT PRINTED: function 45 (strconv_Atoi_45)

-- NOT PRINTED: function 69 (stringslite_Clone)

-- NOT PRINTED: function 55 (strconv_syntaxError)

-- NOT PRINTED: function 56 (strconv_rangeError)

-- NOT PRINTED: function 70 (errors_New)

-- NOT PRINTED: function 57 (strconv_baseError)

-- NOT PRINTED: function 58 (strconv_bitSizeError)

-- NOT PRINTED: function 46 (strconv_toError)

-- NOT PRINTED: function 35 (strconv_Atoi_35)

/-! ### sign_line: function 26 -/
def sign_line.z : ByteArray × Int × Int × Bool := (⟨#[]⟩, 0, 0, false)
def sign_line.t (x z : ByteArray) (kind : Int) : Option (ByteArray × Int × Int × Bool) := match Lib.atoiAll z.data.toList with
 | .ok n => if (⟨(Lib.itoa n).toArray⟩ : ByteArray).toList = z.toList then (sign_may.f x kind n).bind fun b => some (x, kind, n, b) else some sign_line.z
 | _ => some sign_line.z
def sign_line.g : List ByteArray → Option (ByteArray × Int × Int × Bool)
 | [x, y, z] => if y.toList = ([114, 101, 97, 108] : List UInt8) then sign_line.t x z 1 else if y.toList = ([99, 111, 109, 112, 108, 101, 120] : List UInt8) then sign_line.t x z 2 else some sign_line.z
 | _ => some sign_line.z
def sign_line.f (a0 : ByteArray) : Option (ByteArray × Int × Int × Bool) := if a0.size < 4294967281 then sign_line.g (Lib.splitB ⟨#[32]⟩ 0 (Lib.countB a0 ⟨#[32]⟩) a0) else none
theorem sign_line.sp1 : 1 ≤ (⟨#[32]⟩ : ByteArray).size := Nat.le_refl _
theorem splitB_le (sep : ByteArray) : ∀ (k : Nat) (s x : ByteArray), x ∈ Lib.splitB sep 0 k s → x.size ≤ s.size
 | 0, s, x, h => by
  rw [Lib.splitB_zero, List.mem_singleton] at h
  rw [h]; exact Nat.le_refl _
 | k + 1, s, x, h => by
  unfold Lib.splitB at h
  split at h
  ·rw [List.mem_singleton] at h
   rw [h]; exact Nat.le_refl _
  ·rcases List.mem_cons.1 h with h | h
   ·rw [h, ByteArray.size_extract]; omega
   ·have := splitB_le sep k _ x h
    rw [ByteArray.size_extract] at this
    omega
set_option maxHeartbeats 4000000 in
set_option maxRecDepth 100000 in
theorem sign_line.not3 (a0 : ByteArray) (l : List ByteArray) (hl : Lib.splitB ⟨#[32]⟩ 0 (Lib.countB a0 ⟨#[32]⟩) a0 = l) (hz : a0.size < 4294967281) (h3 : l.length ≠ 3) (w : World) (gl_ : Glob w) :
  Calls Tryd.prog 26 #[.string a0] w fun e w' => e = .returned (.tuple #[.agg #[.string ⟨#[]⟩, .int .i64 0, .int .i64 0], .bool false]) ∧ Below w.heap.size w w' := by
 have HL := Aside0.mk hl
 have HZ := Aside0.mk hz
 have GL_ := Aside0.mk gl_
 have c1 : ((l.length : Int) == 3) = false := beq_eq_false_iff_ne.mpr (by omega)
 have c2 : ((l.length : Int) != 3) = true := bne_iff_ne.mpr (by omega)
 have c3 : (l.length == 3) = false := beq_eq_false_iff_ne.mpr h3
 have c4 : (l.length != 3) = true := bne_iff_ne.mpr h3
 have hu39 := Tryd.underlying39
 clear hl hz gl_ h3
 go_enter Tryd.func26, Tryd.ntmps26
 go_wp2_with (first | ((with_reducible refine gate_dst (N := 2) rfl ?_); refine box_event ?hg (N := 2) ?hd (cs := #[.string (⟨#[]⟩ : ByteArray), .int .i64 0, .int .i64 0]) (t := 39) ?hr ?_; (case hd => rfl); (case hg => rfl); (case hr => first | (go_simp; done) | (go_simp; rfl)); intro gb hg w6 hbox hb; have BK := Aside0.mk (hbox); have GE : Aside0 (w.heap.size ≤ gb) := ⟨by rw [hg]; exact Nat.le_refl _⟩; have HB := Aside0.mk (below_step (Below.refl _ _) hb); clear hb hbox hg; obtain ⟨hcz0, hcz1, hcz2, hfz0, hfz1, hfz2⟩ := blk3 BK.out) | ((with_reducible refine gate_callee (f := 25) rfl ?_); refine goesL_ (some 9) rfl rfl Tryd.func25 (by kernel_rfl) rfl #[.string a0, .string ⟨#[32]⟩] rfl (by (try simp only [List.map_toArray, List.map_cons, List.map_nil]); first | done | rfl) ?_; (with_reducible refine (split_calls a0 ⟨#[32]⟩ HZ.out sign_line.sp1 _ (Glob.below GL_.out HB.out)).mono ?_); rintro e w7 ⟨l_, hl_, rfl, hrow, hb⟩; refine ⟨_, rfl, ?_⟩; rw [HL.out] at hl_; subst hl_; replace BK := Aside0.mk (blk_below BK.out hb); replace HB := Aside0.mk (below_step HB.out hb); clear hb hcz0 hcz1 hcz2 hfz0 hfz1 hfz2; obtain ⟨hcz0, hcz1, hcz2, hfz0, hfz1, hfz2⟩ := blk3 BK.out; clear hrow))
 refine bodyPost_ret (results_ct rfl _ _ gb 39 #[.string (⟨#[]⟩ : ByteArray), .int .i64 0, .int .i64 0] (0, 0) _ rfl (by (with_reducible repeat (first | refine blk_drewN ?_ _ | refine blk_drew ?_ | refine blk_alloc ?_ _)); refine blk_put (cs := #[.string (⟨#[]⟩ : ByteArray), .int .i64 0, .int .i64 0]) ?_ 2 _ rfl; refine blk_put (cs := #[.string (⟨#[]⟩ : ByteArray), .int .i64 0, .int .i64 0]) ?_ 1 _ rfl; refine blk_put (cs := #[.string (⟨#[]⟩ : ByteArray), .int .i64 0, .int .i64 0]) ?_ 0 _ rfl; (with_reducible repeat (first | refine blk_drewN ?_ _ | refine blk_drew ?_ | refine blk_alloc ?_ _)); exact BK.out) Tryd.underlying39 rfl (by kernel_rfl)) rfl ?_
 exact ⟨rfl, by repeat (first | (with_reducible first | exact HB.out | apply below_alloc | apply pw_below_drewN | apply below_drew1 | refine below_set ?_ GE.out) | exact HB.out)⟩
theorem sign_line.split3 (a0 x y z : ByteArray) (hl : Lib.splitB ⟨#[32]⟩ 0 (Lib.countB a0 ⟨#[32]⟩) a0 = [x, y, z]) (hz : a0.size < 4294967281) (w : World) (gl : Glob w) :
  Calls Tryd.prog 25 #[.string a0, .string ⟨#[32]⟩] w fun e w' => ∃ g, e = .returned (.slice (some ⟨g, 0, none⟩) 3 3) ∧ w'.heap[g]? = some (.cells #[.string x, .string y, .string z] 9 (0, 0)) ∧ Below w.heap.size w w' := by
 refine (split_calls a0 ⟨#[32]⟩ hz sign_line.sp1 w gl).mono ?_
 rintro e w' ⟨l, h, rfl, hr, hb⟩
 rw [hl] at h
 subst h
 exact ⟨_, rfl, hr, hb⟩
set_option maxHeartbeats 4000000 in
set_option maxRecDepth 100000 in
theorem sign_line.notk (a0 x y z : ByteArray) (hl : Lib.splitB ⟨#[32]⟩ 0 (Lib.countB a0 ⟨#[32]⟩) a0 = [x, y, z]) (hz : a0.size < 4294967281) (hzz : z.size ≤ 281474976710656) (hy1 : y.toList ≠ ([114, 101, 97, 108] : List UInt8)) (hy2 : y.toList ≠ ([99, 111, 109, 112, 108, 101, 120] : List UInt8)) (w : World) (gl_ : Glob w) :
  Calls Tryd.prog 26 #[.string a0] w fun e w' => e = .returned (.tuple #[.agg #[.string ⟨#[]⟩, .int .i64 0, .int .i64 0], .bool false]) ∧ Below w.heap.size w w' := by
 have HL := Aside0.mk hl
 have HZ := Aside0.mk hz
 have HZZ := Aside0.mk hzz
 have GL_ := Aside0.mk gl_
 have hu39 := Tryd.underlying39
 have r1 : (y.toList == ([114, 101, 97, 108] : List UInt8)) = false := beq_eq_false_iff_ne.mpr hy1
 have r2 : (y.toList != ([114, 101, 97, 108] : List UInt8)) = true := bne_iff_ne.mpr hy1
 have q1 : (y.toList == ([99, 111, 109, 112, 108, 101, 120] : List UInt8)) = false := beq_eq_false_iff_ne.mpr hy2
 have q2 : (y.toList != ([99, 111, 109, 112, 108, 101, 120] : List UInt8)) = true := bne_iff_ne.mpr hy2
 clear hl hz hzz gl_ hy1 hy2
 go_enter Tryd.func26, Tryd.ntmps26
 go_wp2_with (first | ((with_reducible refine gate_dst (N := 2) rfl ?_); refine box_event ?hg (N := 2) ?hd (cs := #[.string (⟨#[]⟩ : ByteArray), .int .i64 0, .int .i64 0]) (t := 39) ?hr ?_; (case hd => rfl); (case hg => rfl); (case hr => first | (go_simp; done) | (go_simp; rfl)); intro gb hg w6 hbox hb; have BK := Aside0.mk (hbox); have GE : Aside0 (w.heap.size ≤ gb) := ⟨by rw [hg]; exact Nat.le_refl _⟩; have HB := Aside0.mk (below_step (Below.refl _ _) hb); clear hb hbox hg; obtain ⟨hcz0, hcz1, hcz2, hfz0, hfz1, hfz2⟩ := blk3 BK.out) | ((with_reducible refine gate_callee (f := 25) rfl ?_); refine goesL_ (some 9) rfl rfl Tryd.func25 (by kernel_rfl) rfl #[.string a0, .string ⟨#[32]⟩] rfl (by (try simp only [List.map_toArray, List.map_cons, List.map_nil]); first | done | rfl) ?_; (with_reducible refine (sign_line.split3 a0 x y z HL.out HZ.out _ (Glob.below GL_.out HB.out)).mono ?_); rintro e w7 ⟨gr, rfl, hrow, hb⟩; refine ⟨_, rfl, ?_⟩; replace BK := Aside0.mk (blk_below BK.out hb); replace HB := Aside0.mk (below_step HB.out hb); have HR := Aside0.mk hrow; clear hb hcz0 hcz1 hcz2 hfz0 hfz1 hfz2 hrow; obtain ⟨hcz0, hcz1, hcz2, hfz0, hfz1, hfz2⟩ := blk3 BK.out; have hr0 : w7.cell? ⟨gr, 0, none⟩ = some (.string x) := (blk_cell HR.out 0).trans rfl; have hr1 : w7.cell? ⟨gr, 1, none⟩ = some (.string y) := (blk_cell HR.out 1).trans rfl; have hr2 : w7.cell? ⟨gr, 2, none⟩ = some (.string z) := (blk_cell HR.out 2).trans rfl))
 refine bodyPost_ret (results_ct rfl _ _ gb 39 #[.string (⟨#[]⟩ : ByteArray), .int .i64 0, .int .i64 0] (0, 0) _ rfl (by (with_reducible repeat (first | refine blk_drewN ?_ _ | refine blk_drew ?_ | refine blk_alloc ?_ _)); refine blk_put (cs := #[.string (⟨#[]⟩ : ByteArray), .int .i64 0, .int .i64 0]) ?_ 2 _ rfl; refine blk_put (cs := #[.string (⟨#[]⟩ : ByteArray), .int .i64 0, .int .i64 0]) ?_ 1 _ rfl; refine blk_put (cs := #[.string (⟨#[]⟩ : ByteArray), .int .i64 0, .int .i64 0]) ?_ 0 _ rfl; (with_reducible repeat (first | refine blk_drewN ?_ _ | refine blk_drew ?_ | refine blk_alloc ?_ _)); exact BK.out) Tryd.underlying39 rfl (by kernel_rfl)) rfl ?_
 exact ⟨rfl, by repeat (first | (with_reducible first | exact HB.out | apply below_alloc | apply pw_below_drewN | apply below_drew1 | refine below_set ?_ GE.out) | exact HB.out)⟩
set_option maxHeartbeats 4000000 in
set_option maxRecDepth 100000 in
theorem sign_line.err (a0 x y z : ByteArray) (kind : Int) (hl : Lib.splitB ⟨#[32]⟩ 0 (Lib.countB a0 ⟨#[32]⟩) a0 = [x, y, z]) (hz : a0.size < 4294967281) (hzz : z.size ≤ 281474976710656) (hy : y.toList = ([114, 101, 97, 108] : List UInt8) ∧ kind = 1 ∨ y.toList = ([99, 111, 109, 112, 108, 101, 120] : List UInt8) ∧ kind = 2) (he : ∀ v, Lib.atoiAll z.data.toList ≠ .ok v) (w : World) (gl_ : Glob w) :
  Calls Tryd.prog 26 #[.string a0] w fun e w' => e = .returned (.tuple #[.agg #[.string ⟨#[]⟩, .int .i64 0, .int .i64 0], .bool false]) ∧ Below w.heap.size w w' := by
 have HL := Aside0.mk hl
 have HZ := Aside0.mk hz
 have HZZ := Aside0.mk hzz
 have GL_ := Aside0.mk gl_
 have hu39 := Tryd.underlying39
 have HE := Aside0.mk he
 clear hl hz hzz gl_ he
 rcases hy with ⟨hy, rfl⟩ | ⟨hy, rfl⟩
 ·have r1 : (y.toList == ([114, 101, 97, 108] : List UInt8)) = true := beq_iff_eq.mpr hy
  have r2 : (y.toList != ([114, 101, 97, 108] : List UInt8)) = false := bne_eq_false_iff_eq.mpr hy
  have q1 : (y.toList == ([99, 111, 109, 112, 108, 101, 120] : List UInt8)) = false := by rw [hy]; rfl
  have q2 : (y.toList != ([99, 111, 109, 112, 108, 101, 120] : List UInt8)) = true := by rw [hy]; rfl
  clear hy
  go_enter Tryd.func26, Tryd.ntmps26
  go_wp2_with (first | ((with_reducible refine gate_dst (N := 2) rfl ?_); refine box_event ?hg (N := 2) ?hd (cs := #[.string (⟨#[]⟩ : ByteArray), .int .i64 0, .int .i64 0]) (t := 39) ?hr ?_; (case hd => rfl); (case hg => rfl); (case hr => first | (go_simp; done) | (go_simp; rfl)); intro gb hg w6 hbox hb; have BK := Aside0.mk (hbox); have GE : Aside0 (w.heap.size ≤ gb) := ⟨by rw [hg]; exact Nat.le_refl _⟩; have HB := Aside0.mk (below_step (Below.refl _ _) hb); clear hb hbox hg; obtain ⟨hcz0, hcz1, hcz2, hfz0, hfz1, hfz2⟩ := blk3 BK.out) | ((with_reducible refine gate_callee (f := 25) rfl ?_); refine goesL_ (some 9) rfl rfl Tryd.func25 (by kernel_rfl) rfl #[.string a0, .string ⟨#[32]⟩] rfl (by (try simp only [List.map_toArray, List.map_cons, List.map_nil]); first | done | rfl) ?_; (with_reducible refine (sign_line.split3 a0 x y z HL.out HZ.out _ (Glob.below GL_.out HB.out)).mono ?_); rintro e w7 ⟨gr, rfl, hrow, hb⟩; refine ⟨_, rfl, ?_⟩; replace BK := Aside0.mk (blk_below BK.out hb); replace HB := Aside0.mk (below_step HB.out hb); have HR := Aside0.mk hrow; clear hb hcz0 hcz1 hcz2 hfz0 hfz1 hfz2 hrow; obtain ⟨hcz0, hcz1, hcz2, hfz0, hfz1, hfz2⟩ := blk3 BK.out; have hr0 : w7.cell? ⟨gr, 0, none⟩ = some (.string x) := (blk_cell HR.out 0).trans rfl; have hr1 : w7.cell? ⟨gr, 1, none⟩ = some (.string y) := (blk_cell HR.out 1).trans rfl; have hr2 : w7.cell? ⟨gr, 2, none⟩ = some (.string z) := (blk_cell HR.out 2).trans rfl) | ((with_reducible refine gate_callee (f := 35) rfl ?_); refine goesL_ (some 30) rfl rfl Tryd.func35 (by kernel_rfl) rfl #[.string z] rfl (by (try simp only [List.map_toArray, List.map_cons, List.map_nil]); first | done | rfl) ?_; (with_reducible refine (atoi_err z HZZ.out HE.out _ (Glob.below GL_.out HB.out)).mono ?_); rintro e w8 ⟨n, N, rfl, hb⟩; refine ⟨_, rfl, ?_⟩; replace BK := Aside0.mk (blk_below BK.out hb); replace HR := Aside0.mk (blk_below HR.out hb); replace HB := Aside0.mk (below_step HB.out hb); clear hb hcz0 hcz1 hcz2 hfz0 hfz1 hfz2 hr0 hr1 hr2; obtain ⟨hcz0, hcz1, hcz2, hfz0, hfz1, hfz2⟩ := blk3 BK.out; have hr0 : w8.cell? ⟨gr, 0, none⟩ = some (.string x) := (blk_cell HR.out 0).trans rfl; have hr1 : w8.cell? ⟨gr, 1, none⟩ = some (.string y) := (blk_cell HR.out 1).trans rfl; have hr2 : w8.cell? ⟨gr, 2, none⟩ = some (.string z) := (blk_cell HR.out 2).trans rfl))
  go_quiet (fail)
  go_wp2
  refine bodyPost_ret (results_ct rfl _ _ gb 39 #[.string (⟨#[]⟩ : ByteArray), .int .i64 0, .int .i64 0] (0, 0) _ rfl (by (with_reducible repeat (first | refine blk_drewN ?_ _ | refine blk_drew ?_ | refine blk_alloc ?_ _)); refine blk_put (cs := #[.string (⟨#[]⟩ : ByteArray), .int .i64 0, .int .i64 0]) ?_ 2 _ rfl; refine blk_put (cs := #[.string (⟨#[]⟩ : ByteArray), .int .i64 0, .int .i64 0]) ?_ 1 _ rfl; refine blk_put (cs := #[.string (⟨#[]⟩ : ByteArray), .int .i64 0, .int .i64 0]) ?_ 0 _ rfl; (with_reducible repeat (first | refine blk_drewN ?_ _ | refine blk_drew ?_ | refine blk_alloc ?_ _)); exact BK.out) Tryd.underlying39 rfl (by kernel_rfl)) rfl ?_
  exact ⟨rfl, by repeat (first | (with_reducible first | exact HB.out | apply below_alloc | apply pw_below_drewN | apply below_drew1 | refine below_set ?_ GE.out) | exact HB.out)⟩
 ·have r1 : (y.toList == ([114, 101, 97, 108] : List UInt8)) = false := by rw [hy]; rfl
  have r2 : (y.toList != ([114, 101, 97, 108] : List UInt8)) = true := by rw [hy]; rfl
  have q1 : (y.toList == ([99, 111, 109, 112, 108, 101, 120] : List UInt8)) = true := beq_iff_eq.mpr hy
  have q2 : (y.toList != ([99, 111, 109, 112, 108, 101, 120] : List UInt8)) = false := bne_eq_false_iff_eq.mpr hy
  clear hy
  go_enter Tryd.func26, Tryd.ntmps26
  go_wp2_with (first | ((with_reducible refine gate_dst (N := 2) rfl ?_); refine box_event ?hg (N := 2) ?hd (cs := #[.string (⟨#[]⟩ : ByteArray), .int .i64 0, .int .i64 0]) (t := 39) ?hr ?_; (case hd => rfl); (case hg => rfl); (case hr => first | (go_simp; done) | (go_simp; rfl)); intro gb hg w6 hbox hb; have BK := Aside0.mk (hbox); have GE : Aside0 (w.heap.size ≤ gb) := ⟨by rw [hg]; exact Nat.le_refl _⟩; have HB := Aside0.mk (below_step (Below.refl _ _) hb); clear hb hbox hg; obtain ⟨hcz0, hcz1, hcz2, hfz0, hfz1, hfz2⟩ := blk3 BK.out) | ((with_reducible refine gate_callee (f := 25) rfl ?_); refine goesL_ (some 9) rfl rfl Tryd.func25 (by kernel_rfl) rfl #[.string a0, .string ⟨#[32]⟩] rfl (by (try simp only [List.map_toArray, List.map_cons, List.map_nil]); first | done | rfl) ?_; (with_reducible refine (sign_line.split3 a0 x y z HL.out HZ.out _ (Glob.below GL_.out HB.out)).mono ?_); rintro e w7 ⟨gr, rfl, hrow, hb⟩; refine ⟨_, rfl, ?_⟩; replace BK := Aside0.mk (blk_below BK.out hb); replace HB := Aside0.mk (below_step HB.out hb); have HR := Aside0.mk hrow; clear hb hcz0 hcz1 hcz2 hfz0 hfz1 hfz2 hrow; obtain ⟨hcz0, hcz1, hcz2, hfz0, hfz1, hfz2⟩ := blk3 BK.out; have hr0 : w7.cell? ⟨gr, 0, none⟩ = some (.string x) := (blk_cell HR.out 0).trans rfl; have hr1 : w7.cell? ⟨gr, 1, none⟩ = some (.string y) := (blk_cell HR.out 1).trans rfl; have hr2 : w7.cell? ⟨gr, 2, none⟩ = some (.string z) := (blk_cell HR.out 2).trans rfl) | ((with_reducible refine gate_callee (f := 35) rfl ?_); refine goesL_ (some 30) rfl rfl Tryd.func35 (by kernel_rfl) rfl #[.string z] rfl (by (try simp only [List.map_toArray, List.map_cons, List.map_nil]); first | done | rfl) ?_; (with_reducible refine (atoi_err z HZZ.out HE.out _ (Glob.below GL_.out HB.out)).mono ?_); rintro e w8 ⟨n, N, rfl, hb⟩; refine ⟨_, rfl, ?_⟩; replace BK := Aside0.mk (blk_below BK.out hb); replace HR := Aside0.mk (blk_below HR.out hb); replace HB := Aside0.mk (below_step HB.out hb); clear hb hcz0 hcz1 hcz2 hfz0 hfz1 hfz2 hr0 hr1 hr2; obtain ⟨hcz0, hcz1, hcz2, hfz0, hfz1, hfz2⟩ := blk3 BK.out; have hr0 : w8.cell? ⟨gr, 0, none⟩ = some (.string x) := (blk_cell HR.out 0).trans rfl; have hr1 : w8.cell? ⟨gr, 1, none⟩ = some (.string y) := (blk_cell HR.out 1).trans rfl; have hr2 : w8.cell? ⟨gr, 2, none⟩ = some (.string z) := (blk_cell HR.out 2).trans rfl))
  go_quiet (fail)
  go_wp2
  refine bodyPost_ret (results_ct rfl _ _ gb 39 #[.string (⟨#[]⟩ : ByteArray), .int .i64 0, .int .i64 0] (0, 0) _ rfl (by (with_reducible repeat (first | refine blk_drewN ?_ _ | refine blk_drew ?_ | refine blk_alloc ?_ _)); refine blk_put (cs := #[.string (⟨#[]⟩ : ByteArray), .int .i64 0, .int .i64 0]) ?_ 2 _ rfl; refine blk_put (cs := #[.string (⟨#[]⟩ : ByteArray), .int .i64 0, .int .i64 0]) ?_ 1 _ rfl; refine blk_put (cs := #[.string (⟨#[]⟩ : ByteArray), .int .i64 0, .int .i64 0]) ?_ 0 _ rfl; (with_reducible repeat (first | refine blk_drewN ?_ _ | refine blk_drew ?_ | refine blk_alloc ?_ _)); exact BK.out) Tryd.underlying39 rfl (by kernel_rfl)) rfl ?_
  exact ⟨rfl, by repeat (first | (with_reducible first | exact HB.out | apply below_alloc | apply pw_below_drewN | apply below_drew1 | refine below_set ?_ GE.out) | exact HB.out)⟩
set_option maxHeartbeats 4000000 in
set_option maxRecDepth 100000 in
theorem sign_line.ne (a0 x y z : ByteArray) (kind n : Int) (hl : Lib.splitB ⟨#[32]⟩ 0 (Lib.countB a0 ⟨#[32]⟩) a0 = [x, y, z]) (hz : a0.size < 4294967281) (hzz : z.size ≤ 281474976710656) (hy : y.toList = ([114, 101, 97, 108] : List UInt8) ∧ kind = 1 ∨ y.toList = ([99, 111, 109, 112, 108, 101, 120] : List UInt8) ∧ kind = 2) (he : Lib.atoiAll z.data.toList = .ok n) (hne : (⟨(Lib.itoa n).toArray⟩ : ByteArray).toList ≠ z.toList) (w : World) (gl_ : Glob w) :
  Calls Tryd.prog 26 #[.string a0] w fun e w' => e = .returned (.tuple #[.agg #[.string ⟨#[]⟩, .int .i64 0, .int .i64 0], .bool false]) ∧ Below w.heap.size w w' := by
 have HL := Aside0.mk hl
 have HZ := Aside0.mk hz
 have HZZ := Aside0.mk hzz
 have GL_ := Aside0.mk gl_
 have hu39 := Tryd.underlying39
 have HE := Aside0.mk he
 obtain ⟨n0_, n1_⟩ := Lib.atoiAll_bounds he
 obtain ⟨s, hs⟩ : ∃ s : ByteArray, s = ⟨(Lib.itoa n).toArray⟩ := ⟨_, rfl⟩
 have HS := Aside0.mk hs
 rw [← hs] at hne
 have e1 : (s.toList == z.toList) = false := beq_eq_false_iff_ne.mpr hne
 have e2 : (s.toList != z.toList) = true := bne_iff_ne.mpr hne
 have N0 := Aside0.mk n0_
 have N1 := Aside0.mk n1_
 clear hl hz hzz gl_ he hne hs n0_ n1_
 rcases hy with ⟨hy, rfl⟩ | ⟨hy, rfl⟩
 ·have r1 : (y.toList == ([114, 101, 97, 108] : List UInt8)) = true := beq_iff_eq.mpr hy
  have r2 : (y.toList != ([114, 101, 97, 108] : List UInt8)) = false := bne_eq_false_iff_eq.mpr hy
  have q1 : (y.toList == ([99, 111, 109, 112, 108, 101, 120] : List UInt8)) = false := by rw [hy]; rfl
  have q2 : (y.toList != ([99, 111, 109, 112, 108, 101, 120] : List UInt8)) = true := by rw [hy]; rfl
  clear hy
  go_enter Tryd.func26, Tryd.ntmps26
  go_wp2_with (first | ((with_reducible refine gate_dst (N := 2) rfl ?_); refine box_event ?hg (N := 2) ?hd (cs := #[.string (⟨#[]⟩ : ByteArray), .int .i64 0, .int .i64 0]) (t := 39) ?hr ?_; (case hd => rfl); (case hg => rfl); (case hr => first | (go_simp; done) | (go_simp; rfl)); intro gb hg w6 hbox hb; have BK := Aside0.mk (hbox); have GE : Aside0 (w.heap.size ≤ gb) := ⟨by rw [hg]; exact Nat.le_refl _⟩; have HB := Aside0.mk (below_step (Below.refl _ _) hb); clear hb hbox hg; obtain ⟨hcz0, hcz1, hcz2, hfz0, hfz1, hfz2⟩ := blk3 BK.out) | ((with_reducible refine gate_callee (f := 25) rfl ?_); refine goesL_ (some 9) rfl rfl Tryd.func25 (by kernel_rfl) rfl #[.string a0, .string ⟨#[32]⟩] rfl (by (try simp only [List.map_toArray, List.map_cons, List.map_nil]); first | done | rfl) ?_; (with_reducible refine (sign_line.split3 a0 x y z HL.out HZ.out _ (Glob.below GL_.out HB.out)).mono ?_); rintro e w7 ⟨gr, rfl, hrow, hb⟩; refine ⟨_, rfl, ?_⟩; replace BK := Aside0.mk (blk_below BK.out hb); replace HB := Aside0.mk (below_step HB.out hb); have HR := Aside0.mk hrow; clear hb hcz0 hcz1 hcz2 hfz0 hfz1 hfz2 hrow; obtain ⟨hcz0, hcz1, hcz2, hfz0, hfz1, hfz2⟩ := blk3 BK.out; have hr0 : w7.cell? ⟨gr, 0, none⟩ = some (.string x) := (blk_cell HR.out 0).trans rfl; have hr1 : w7.cell? ⟨gr, 1, none⟩ = some (.string y) := (blk_cell HR.out 1).trans rfl; have hr2 : w7.cell? ⟨gr, 2, none⟩ = some (.string z) := (blk_cell HR.out 2).trans rfl) | ((with_reducible refine gate_callee (f := 35) rfl ?_); refine goesL_ (some 30) rfl rfl Tryd.func35 (by kernel_rfl) rfl #[.string z] rfl (by (try simp only [List.map_toArray, List.map_cons, List.map_nil]); first | done | rfl) ?_; (with_reducible refine (atoi_ok z HZZ.out n HE.out _).mono ?_); rintro e w8 ⟨rfl, hb⟩; refine ⟨_, rfl, ?_⟩; replace BK := Aside0.mk (blk_below BK.out hb); replace HR := Aside0.mk (blk_below HR.out hb); replace HB := Aside0.mk (below_step HB.out hb); clear hb hcz0 hcz1 hcz2 hfz0 hfz1 hfz2 hr0 hr1 hr2; obtain ⟨hcz0, hcz1, hcz2, hfz0, hfz1, hfz2⟩ := blk3 BK.out; have hr0 : w8.cell? ⟨gr, 0, none⟩ = some (.string x) := (blk_cell HR.out 0).trans rfl; have hr1 : w8.cell? ⟨gr, 1, none⟩ = some (.string y) := (blk_cell HR.out 1).trans rfl; have hr2 : w8.cell? ⟨gr, 2, none⟩ = some (.string z) := (blk_cell HR.out 2).trans rfl))
  go_region_held3 (fun w' => w'.cell? ⟨gr, 2, none⟩ = some (.string z)) (first | assumption | go_keep) (first | (go_at_call 29; refine (itoa_calls n N0.out N1.out _ ?_).mono ?_; exact Glob.below GL_.out (below_drew1 HB.out); rintro e w9 ⟨rfl, hb⟩; rw [← HS.out]; replace BK := Aside0.mk (blk_below (blk_drew BK.out) hb); replace HR := Aside0.mk (blk_below (blk_drew HR.out) hb); replace HB := Aside0.mk (below_step (below_drew1 HB.out) hb); clear hb hcz0 hcz1 hcz2 hfz0 hfz1 hfz2 hr0 hr1 hr2; obtain ⟨hcz0, hcz1, hcz2, hfz0, hfz1, hfz2⟩ := blk3 BK.out; have hr0 : w9.cell? ⟨gr, 0, none⟩ = some (.string x) := (blk_cell HR.out 0).trans rfl; have hr1 : w9.cell? ⟨gr, 1, none⟩ = some (.string y) := (blk_cell HR.out 1).trans rfl; have hr2 : w9.cell? ⟨gr, 2, none⟩ = some (.string z) := (blk_cell HR.out 2).trans rfl))
  go_wp2
  refine bodyPost_ret (results_ct rfl _ _ gb 39 #[.string (⟨#[]⟩ : ByteArray), .int .i64 0, .int .i64 0] (0, 0) _ rfl (by (with_reducible repeat (first | refine blk_drewN ?_ _ | refine blk_drew ?_ | refine blk_alloc ?_ _)); refine blk_put (cs := #[.string (⟨#[]⟩ : ByteArray), .int .i64 0, .int .i64 0]) ?_ 2 _ rfl; refine blk_put (cs := #[.string (⟨#[]⟩ : ByteArray), .int .i64 0, .int .i64 0]) ?_ 1 _ rfl; refine blk_put (cs := #[.string (⟨#[]⟩ : ByteArray), .int .i64 0, .int .i64 0]) ?_ 0 _ rfl; (with_reducible repeat (first | refine blk_drewN ?_ _ | refine blk_drew ?_ | refine blk_alloc ?_ _)); exact BK.out) Tryd.underlying39 rfl (by kernel_rfl)) rfl ?_
  exact ⟨rfl, by repeat (first | (with_reducible first | exact HB.out | apply below_alloc | apply pw_below_drewN | apply below_drew1 | refine below_set ?_ GE.out) | exact HB.out)⟩
 ·have r1 : (y.toList == ([114, 101, 97, 108] : List UInt8)) = false := by rw [hy]; rfl
  have r2 : (y.toList != ([114, 101, 97, 108] : List UInt8)) = true := by rw [hy]; rfl
  have q1 : (y.toList == ([99, 111, 109, 112, 108, 101, 120] : List UInt8)) = true := beq_iff_eq.mpr hy
  have q2 : (y.toList != ([99, 111, 109, 112, 108, 101, 120] : List UInt8)) = false := bne_eq_false_iff_eq.mpr hy
  clear hy
  go_enter Tryd.func26, Tryd.ntmps26
  go_wp2_with (first | ((with_reducible refine gate_dst (N := 2) rfl ?_); refine box_event ?hg (N := 2) ?hd (cs := #[.string (⟨#[]⟩ : ByteArray), .int .i64 0, .int .i64 0]) (t := 39) ?hr ?_; (case hd => rfl); (case hg => rfl); (case hr => first | (go_simp; done) | (go_simp; rfl)); intro gb hg w6 hbox hb; have BK := Aside0.mk (hbox); have GE : Aside0 (w.heap.size ≤ gb) := ⟨by rw [hg]; exact Nat.le_refl _⟩; have HB := Aside0.mk (below_step (Below.refl _ _) hb); clear hb hbox hg; obtain ⟨hcz0, hcz1, hcz2, hfz0, hfz1, hfz2⟩ := blk3 BK.out) | ((with_reducible refine gate_callee (f := 25) rfl ?_); refine goesL_ (some 9) rfl rfl Tryd.func25 (by kernel_rfl) rfl #[.string a0, .string ⟨#[32]⟩] rfl (by (try simp only [List.map_toArray, List.map_cons, List.map_nil]); first | done | rfl) ?_; (with_reducible refine (sign_line.split3 a0 x y z HL.out HZ.out _ (Glob.below GL_.out HB.out)).mono ?_); rintro e w7 ⟨gr, rfl, hrow, hb⟩; refine ⟨_, rfl, ?_⟩; replace BK := Aside0.mk (blk_below BK.out hb); replace HB := Aside0.mk (below_step HB.out hb); have HR := Aside0.mk hrow; clear hb hcz0 hcz1 hcz2 hfz0 hfz1 hfz2 hrow; obtain ⟨hcz0, hcz1, hcz2, hfz0, hfz1, hfz2⟩ := blk3 BK.out; have hr0 : w7.cell? ⟨gr, 0, none⟩ = some (.string x) := (blk_cell HR.out 0).trans rfl; have hr1 : w7.cell? ⟨gr, 1, none⟩ = some (.string y) := (blk_cell HR.out 1).trans rfl; have hr2 : w7.cell? ⟨gr, 2, none⟩ = some (.string z) := (blk_cell HR.out 2).trans rfl) | ((with_reducible refine gate_callee (f := 35) rfl ?_); refine goesL_ (some 30) rfl rfl Tryd.func35 (by kernel_rfl) rfl #[.string z] rfl (by (try simp only [List.map_toArray, List.map_cons, List.map_nil]); first | done | rfl) ?_; (with_reducible refine (atoi_ok z HZZ.out n HE.out _).mono ?_); rintro e w8 ⟨rfl, hb⟩; refine ⟨_, rfl, ?_⟩; replace BK := Aside0.mk (blk_below BK.out hb); replace HR := Aside0.mk (blk_below HR.out hb); replace HB := Aside0.mk (below_step HB.out hb); clear hb hcz0 hcz1 hcz2 hfz0 hfz1 hfz2 hr0 hr1 hr2; obtain ⟨hcz0, hcz1, hcz2, hfz0, hfz1, hfz2⟩ := blk3 BK.out; have hr0 : w8.cell? ⟨gr, 0, none⟩ = some (.string x) := (blk_cell HR.out 0).trans rfl; have hr1 : w8.cell? ⟨gr, 1, none⟩ = some (.string y) := (blk_cell HR.out 1).trans rfl; have hr2 : w8.cell? ⟨gr, 2, none⟩ = some (.string z) := (blk_cell HR.out 2).trans rfl))
  go_region_held3 (fun w' => w'.cell? ⟨gr, 2, none⟩ = some (.string z)) (first | assumption | go_keep) (first | (go_at_call 29; refine (itoa_calls n N0.out N1.out _ ?_).mono ?_; exact Glob.below GL_.out (below_drew1 HB.out); rintro e w9 ⟨rfl, hb⟩; rw [← HS.out]; replace BK := Aside0.mk (blk_below (blk_drew BK.out) hb); replace HR := Aside0.mk (blk_below (blk_drew HR.out) hb); replace HB := Aside0.mk (below_step (below_drew1 HB.out) hb); clear hb hcz0 hcz1 hcz2 hfz0 hfz1 hfz2 hr0 hr1 hr2; obtain ⟨hcz0, hcz1, hcz2, hfz0, hfz1, hfz2⟩ := blk3 BK.out; have hr0 : w9.cell? ⟨gr, 0, none⟩ = some (.string x) := (blk_cell HR.out 0).trans rfl; have hr1 : w9.cell? ⟨gr, 1, none⟩ = some (.string y) := (blk_cell HR.out 1).trans rfl; have hr2 : w9.cell? ⟨gr, 2, none⟩ = some (.string z) := (blk_cell HR.out 2).trans rfl))
  go_wp2
  refine bodyPost_ret (results_ct rfl _ _ gb 39 #[.string (⟨#[]⟩ : ByteArray), .int .i64 0, .int .i64 0] (0, 0) _ rfl (by (with_reducible repeat (first | refine blk_drewN ?_ _ | refine blk_drew ?_ | refine blk_alloc ?_ _)); refine blk_put (cs := #[.string (⟨#[]⟩ : ByteArray), .int .i64 0, .int .i64 0]) ?_ 2 _ rfl; refine blk_put (cs := #[.string (⟨#[]⟩ : ByteArray), .int .i64 0, .int .i64 0]) ?_ 1 _ rfl; refine blk_put (cs := #[.string (⟨#[]⟩ : ByteArray), .int .i64 0, .int .i64 0]) ?_ 0 _ rfl; (with_reducible repeat (first | refine blk_drewN ?_ _ | refine blk_drew ?_ | refine blk_alloc ?_ _)); exact BK.out) Tryd.underlying39 rfl (by kernel_rfl)) rfl ?_
  exact ⟨rfl, by repeat (first | (with_reducible first | exact HB.out | apply below_alloc | apply pw_below_drewN | apply below_drew1 | refine below_set ?_ GE.out) | exact HB.out)⟩
set_option maxHeartbeats 4000000 in
set_option maxRecDepth 100000 in
theorem sign_line.eq (a0 x y z : ByteArray) (kind n : Int) (b : Bool) (hl : Lib.splitB ⟨#[32]⟩ 0 (Lib.countB a0 ⟨#[32]⟩) a0 = [x, y, z]) (hz : a0.size < 4294967281) (hzz : z.size ≤ 281474976710656) (hy : y.toList = ([114, 101, 97, 108] : List UInt8) ∧ kind = 1 ∨ y.toList = ([99, 111, 109, 112, 108, 101, 120] : List UInt8) ∧ kind = 2) (he : Lib.atoiAll z.data.toList = .ok n) (heq : (⟨(Lib.itoa n).toArray⟩ : ByteArray).toList = z.toList) (hm : sign_may.f x kind n = some b) (w : World) (gl_ : Glob w) :
  Calls Tryd.prog 26 #[.string a0] w fun e w' => e = .returned (.tuple #[.agg #[.string x, .int .i64 kind, .int .i64 n], .bool b]) ∧ Below w.heap.size w w' := by
 have HL := Aside0.mk hl
 have HZ := Aside0.mk hz
 have HZZ := Aside0.mk hzz
 have GL_ := Aside0.mk gl_
 have hu39 := Tryd.underlying39
 have HE := Aside0.mk he
 obtain ⟨n0_, n1_⟩ := Lib.atoiAll_bounds he
 obtain ⟨s, hs⟩ : ∃ s : ByteArray, s = ⟨(Lib.itoa n).toArray⟩ := ⟨_, rfl⟩
 have HS := Aside0.mk hs
 rw [← hs] at heq
 have e1 : (s.toList == z.toList) = true := beq_iff_eq.mpr heq
 have e2 : (s.toList != z.toList) = false := bne_eq_false_iff_eq.mpr heq
 have N0 := Aside0.mk n0_
 have N1 := Aside0.mk n1_
 have HM := Aside0.mk hm
 clear hl hz hzz gl_ he heq hs n0_ n1_ hm
 rcases hy with ⟨hy, rfl⟩ | ⟨hy, rfl⟩
 ·have r1 : (y.toList == ([114, 101, 97, 108] : List UInt8)) = true := beq_iff_eq.mpr hy
  have r2 : (y.toList != ([114, 101, 97, 108] : List UInt8)) = false := bne_eq_false_iff_eq.mpr hy
  have q1 : (y.toList == ([99, 111, 109, 112, 108, 101, 120] : List UInt8)) = false := by rw [hy]; rfl
  have q2 : (y.toList != ([99, 111, 109, 112, 108, 101, 120] : List UInt8)) = true := by rw [hy]; rfl
  clear hy
  go_enter Tryd.func26, Tryd.ntmps26
  go_wp2_with (first | ((with_reducible refine gate_dst (N := 2) rfl ?_); refine box_event ?hg (N := 2) ?hd (cs := #[.string (⟨#[]⟩ : ByteArray), .int .i64 0, .int .i64 0]) (t := 39) ?hr ?_; (case hd => rfl); (case hg => rfl); (case hr => first | (go_simp; done) | (go_simp; rfl)); intro gb hg w6 hbox hb; have BK := Aside0.mk (hbox); have GE : Aside0 (w.heap.size ≤ gb) := ⟨by rw [hg]; exact Nat.le_refl _⟩; have HB := Aside0.mk (below_step (Below.refl _ _) hb); clear hb hbox hg; obtain ⟨hcz0, hcz1, hcz2, hfz0, hfz1, hfz2⟩ := blk3 BK.out) | ((with_reducible refine gate_callee (f := 25) rfl ?_); refine goesL_ (some 9) rfl rfl Tryd.func25 (by kernel_rfl) rfl #[.string a0, .string ⟨#[32]⟩] rfl (by (try simp only [List.map_toArray, List.map_cons, List.map_nil]); first | done | rfl) ?_; (with_reducible refine (sign_line.split3 a0 x y z HL.out HZ.out _ (Glob.below GL_.out HB.out)).mono ?_); rintro e w7 ⟨gr, rfl, hrow, hb⟩; refine ⟨_, rfl, ?_⟩; replace BK := Aside0.mk (blk_below BK.out hb); replace HB := Aside0.mk (below_step HB.out hb); have HR := Aside0.mk hrow; clear hb hcz0 hcz1 hcz2 hfz0 hfz1 hfz2 hrow; obtain ⟨hcz0, hcz1, hcz2, hfz0, hfz1, hfz2⟩ := blk3 BK.out; have hr0 : w7.cell? ⟨gr, 0, none⟩ = some (.string x) := (blk_cell HR.out 0).trans rfl; have hr1 : w7.cell? ⟨gr, 1, none⟩ = some (.string y) := (blk_cell HR.out 1).trans rfl; have hr2 : w7.cell? ⟨gr, 2, none⟩ = some (.string z) := (blk_cell HR.out 2).trans rfl) | ((with_reducible refine gate_callee (f := 35) rfl ?_); refine goesL_ (some 30) rfl rfl Tryd.func35 (by kernel_rfl) rfl #[.string z] rfl (by (try simp only [List.map_toArray, List.map_cons, List.map_nil]); first | done | rfl) ?_; (with_reducible refine (atoi_ok z HZZ.out n HE.out _).mono ?_); rintro e w8 ⟨rfl, hb⟩; refine ⟨_, rfl, ?_⟩; replace BK := Aside0.mk (blk_below BK.out hb); replace HR := Aside0.mk (blk_below HR.out hb); replace HB := Aside0.mk (below_step HB.out hb); clear hb hcz0 hcz1 hcz2 hfz0 hfz1 hfz2 hr0 hr1 hr2; obtain ⟨hcz0, hcz1, hcz2, hfz0, hfz1, hfz2⟩ := blk3 BK.out; have hr0 : w8.cell? ⟨gr, 0, none⟩ = some (.string x) := (blk_cell HR.out 0).trans rfl; have hr1 : w8.cell? ⟨gr, 1, none⟩ = some (.string y) := (blk_cell HR.out 1).trans rfl; have hr2 : w8.cell? ⟨gr, 2, none⟩ = some (.string z) := (blk_cell HR.out 2).trans rfl))
  go_region_held3 (fun w' => w'.cell? ⟨gr, 2, none⟩ = some (.string z)) (first | assumption | go_keep) (first | (go_at_call 29; refine (itoa_calls n N0.out N1.out _ ?_).mono ?_; exact Glob.below GL_.out (below_drew1 HB.out); rintro e w9 ⟨rfl, hb⟩; rw [← HS.out]; replace BK := Aside0.mk (blk_below (blk_drew BK.out) hb); replace HR := Aside0.mk (blk_below (blk_drew HR.out) hb); replace HB := Aside0.mk (below_step (below_drew1 HB.out) hb); clear hb hcz0 hcz1 hcz2 hfz0 hfz1 hfz2 hr0 hr1 hr2; obtain ⟨hcz0, hcz1, hcz2, hfz0, hfz1, hfz2⟩ := blk3 BK.out; have hr0 : w9.cell? ⟨gr, 0, none⟩ = some (.string x) := (blk_cell HR.out 0).trans rfl; have hr1 : w9.cell? ⟨gr, 1, none⟩ = some (.string y) := (blk_cell HR.out 1).trans rfl; have hr2 : w9.cell? ⟨gr, 2, none⟩ = some (.string z) := (blk_cell HR.out 2).trans rfl))
  go_upto_region 8 with (first | ((with_reducible refine gate_dst (N := 7) rfl ?_); refine box_event ?hg (N := 7) ?hd (cs := #[.string (⟨#[]⟩ : ByteArray), .int .i64 0, .int .i64 0]) (t := 39) ?hr ?_; (case hd => rfl); (case hg => rfl); (case hr => first | (go_simp; done) | (go_simp; rfl)); intro gp hg w10 hbox hb; have BP := Aside0.mk (hbox); have nrp : Aside0 (gr ≠ gp) := ⟨fun e_ => by have := blk_lt HR.out; omega⟩; have NE : Aside0 (gb ≠ gp) := ⟨fun e_ => by have := blk_lt BK.out; omega⟩; have GP : Aside0 (w.heap.size ≤ gp) := ⟨by rw [hg]; exact HB.out.size⟩; replace BK := Aside0.mk (blk_below BK.out hb); replace HR := Aside0.mk (blk_below HR.out hb); replace HB := Aside0.mk (below_step HB.out hb); clear hb hbox hg hcz0 hcz1 hcz2 hfz0 hfz1 hfz2 hr0 hr1 hr2; obtain ⟨hcz0, hcz1, hcz2, hfz0, hfz1, hfz2⟩ := blk3 BK.out; obtain ⟨hpz0, hpz1, hpz2, hpf0, hpf1, hpf2⟩ := blk3 BP.out; have hr0 : w10.cell? ⟨gr, 0, none⟩ = some (.string x) := (blk_cell HR.out 0).trans rfl; have hr1 : w10.cell? ⟨gr, 1, none⟩ = some (.string y) := (blk_cell HR.out 1).trans rfl; have hr2 : w10.cell? ⟨gr, 2, none⟩ = some (.string z) := (blk_cell HR.out 2).trans rfl))
  refine wp_named_ (fun W => W.heap[gp]? = some (.cells #[.string x, .int .i64 1, .int .i64 n] 39 (0, 0)) ∧ W.heap[gb]? = some (.cells #[.string (⟨#[]⟩ : ByteArray), .int .i64 0, .int .i64 0] 39 (0, 0)) ∧ W.heap[gr]? = some (.cells #[.string x, .string y, .string z] 9 (0, 0)) ∧ Below w.heap.size w W) ⟨by refine blk_put (cs := #[.string x, .int .i64 1, .int .i64 0]) ?_ 2 _ rfl; refine blk_put (cs := #[.string x, .int .i64 0, .int .i64 0]) ?_ 1 _ rfl; refine blk_put (cs := #[.string (⟨#[]⟩ : ByteArray), .int .i64 0, .int .i64 0]) ?_ 0 _ rfl; exact BP.out, blk_far_ (blk_far_ (blk_far_ BK.out NE.out _ _) NE.out _ _) NE.out _ _, blk_far_ (blk_far_ (blk_far_ HR.out nrp.out _ _) nrp.out _ _) nrp.out _ _, by exact below_set (below_set (below_set HB.out GP.out) GP.out) GP.out⟩ ?_
  clear hcz0 hcz1 hcz2 hfz0 hfz1 hfz2 hpz0 hpz1 hpz2 hpf0 hpf1 hpf2 hr0 hr1 hr2
  rintro w11 ⟨hp, hk, hr, hb⟩
  obtain ⟨hpz0, hpz1, hpz2, hpf0, hpf1, hpf2⟩ := blk3 hp
  have hr1 : w11.cell? ⟨gr, 1, none⟩ = some (.string y) := (blk_cell hr 1).trans rfl
  replace BP := Aside0.mk hp
  replace BK := Aside0.mk hk
  replace HB := Aside0.mk hb
  clear hp hk hr hb HR
  go_upto_region 10 with (fail)
  skip
  have nbp : gb ≠ gp := NE.out
  have npb : gp ≠ gb := fun e_ => NE.out e_.symm
  go_region_held3 (fun w' => w'.cell? ⟨gp, 0, none⟩ = some (.string x) ∧ w'.cell? ⟨gp, 1, none⟩ = some (.int .i64 1) ∧ w'.cell? ⟨gp, 2, none⟩ = some (.int .i64 n)) (first | exact ⟨by assumption, by assumption, by assumption⟩ | go_keep) (first | (go_at_call 32; refine (sign_may.calls x 1 n b _ HM.out).mono ?_; rintro e w12 ⟨rfl, hb⟩; replace BP := Aside0.mk (blk_below (blk_drew BP.out) hb); replace BK := Aside0.mk (blk_below (blk_drew BK.out) hb); replace HB := Aside0.mk (below_step (below_drew1 HB.out) hb); clear hb hpz0 hpz1 hpz2 hpf0 hpf1 hpf2; obtain ⟨hpz0, hpz1, hpz2, hpf0, hpf1, hpf2⟩ := blk3 BP.out; obtain ⟨hcz0, hcz1, hcz2, hfz0, hfz1, hfz2⟩ := blk3 BK.out))
  go_wp2
  refine bodyPost_ret (results_ct rfl _ _ gb 39 #[.string x, .int .i64 1, .int .i64 n] (0, 0) _ rfl (by (with_reducible repeat (first | refine blk_drewN ?_ _ | refine blk_drew ?_ | refine blk_alloc ?_ _)); refine blk_put (cs := #[.string x, .int .i64 1, .int .i64 0]) ?_ 2 _ rfl; refine blk_put (cs := #[.string x, .int .i64 0, .int .i64 0]) ?_ 1 _ rfl; refine blk_put (cs := #[.string (⟨#[]⟩ : ByteArray), .int .i64 0, .int .i64 0]) ?_ 0 _ rfl; (with_reducible repeat (first | refine blk_drewN ?_ _ | refine blk_drew ?_ | refine blk_alloc ?_ _)); exact BK.out) Tryd.underlying39 rfl (by kernel_rfl)) rfl ?_
  exact ⟨rfl, by repeat (first | (with_reducible first | exact HB.out | apply below_alloc | apply pw_below_drewN | apply below_drew1 | refine below_set ?_ GE.out) | exact HB.out)⟩
 ·have r1 : (y.toList == ([114, 101, 97, 108] : List UInt8)) = false := by rw [hy]; rfl
  have r2 : (y.toList != ([114, 101, 97, 108] : List UInt8)) = true := by rw [hy]; rfl
  have q1 : (y.toList == ([99, 111, 109, 112, 108, 101, 120] : List UInt8)) = true := beq_iff_eq.mpr hy
  have q2 : (y.toList != ([99, 111, 109, 112, 108, 101, 120] : List UInt8)) = false := bne_eq_false_iff_eq.mpr hy
  clear hy
  go_enter Tryd.func26, Tryd.ntmps26
  go_wp2_with (first | ((with_reducible refine gate_dst (N := 2) rfl ?_); refine box_event ?hg (N := 2) ?hd (cs := #[.string (⟨#[]⟩ : ByteArray), .int .i64 0, .int .i64 0]) (t := 39) ?hr ?_; (case hd => rfl); (case hg => rfl); (case hr => first | (go_simp; done) | (go_simp; rfl)); intro gb hg w6 hbox hb; have BK := Aside0.mk (hbox); have GE : Aside0 (w.heap.size ≤ gb) := ⟨by rw [hg]; exact Nat.le_refl _⟩; have HB := Aside0.mk (below_step (Below.refl _ _) hb); clear hb hbox hg; obtain ⟨hcz0, hcz1, hcz2, hfz0, hfz1, hfz2⟩ := blk3 BK.out) | ((with_reducible refine gate_callee (f := 25) rfl ?_); refine goesL_ (some 9) rfl rfl Tryd.func25 (by kernel_rfl) rfl #[.string a0, .string ⟨#[32]⟩] rfl (by (try simp only [List.map_toArray, List.map_cons, List.map_nil]); first | done | rfl) ?_; (with_reducible refine (sign_line.split3 a0 x y z HL.out HZ.out _ (Glob.below GL_.out HB.out)).mono ?_); rintro e w7 ⟨gr, rfl, hrow, hb⟩; refine ⟨_, rfl, ?_⟩; replace BK := Aside0.mk (blk_below BK.out hb); replace HB := Aside0.mk (below_step HB.out hb); have HR := Aside0.mk hrow; clear hb hcz0 hcz1 hcz2 hfz0 hfz1 hfz2 hrow; obtain ⟨hcz0, hcz1, hcz2, hfz0, hfz1, hfz2⟩ := blk3 BK.out; have hr0 : w7.cell? ⟨gr, 0, none⟩ = some (.string x) := (blk_cell HR.out 0).trans rfl; have hr1 : w7.cell? ⟨gr, 1, none⟩ = some (.string y) := (blk_cell HR.out 1).trans rfl; have hr2 : w7.cell? ⟨gr, 2, none⟩ = some (.string z) := (blk_cell HR.out 2).trans rfl) | ((with_reducible refine gate_callee (f := 35) rfl ?_); refine goesL_ (some 30) rfl rfl Tryd.func35 (by kernel_rfl) rfl #[.string z] rfl (by (try simp only [List.map_toArray, List.map_cons, List.map_nil]); first | done | rfl) ?_; (with_reducible refine (atoi_ok z HZZ.out n HE.out _).mono ?_); rintro e w8 ⟨rfl, hb⟩; refine ⟨_, rfl, ?_⟩; replace BK := Aside0.mk (blk_below BK.out hb); replace HR := Aside0.mk (blk_below HR.out hb); replace HB := Aside0.mk (below_step HB.out hb); clear hb hcz0 hcz1 hcz2 hfz0 hfz1 hfz2 hr0 hr1 hr2; obtain ⟨hcz0, hcz1, hcz2, hfz0, hfz1, hfz2⟩ := blk3 BK.out; have hr0 : w8.cell? ⟨gr, 0, none⟩ = some (.string x) := (blk_cell HR.out 0).trans rfl; have hr1 : w8.cell? ⟨gr, 1, none⟩ = some (.string y) := (blk_cell HR.out 1).trans rfl; have hr2 : w8.cell? ⟨gr, 2, none⟩ = some (.string z) := (blk_cell HR.out 2).trans rfl))
  go_region_held3 (fun w' => w'.cell? ⟨gr, 2, none⟩ = some (.string z)) (first | assumption | go_keep) (first | (go_at_call 29; refine (itoa_calls n N0.out N1.out _ ?_).mono ?_; exact Glob.below GL_.out (below_drew1 HB.out); rintro e w9 ⟨rfl, hb⟩; rw [← HS.out]; replace BK := Aside0.mk (blk_below (blk_drew BK.out) hb); replace HR := Aside0.mk (blk_below (blk_drew HR.out) hb); replace HB := Aside0.mk (below_step (below_drew1 HB.out) hb); clear hb hcz0 hcz1 hcz2 hfz0 hfz1 hfz2 hr0 hr1 hr2; obtain ⟨hcz0, hcz1, hcz2, hfz0, hfz1, hfz2⟩ := blk3 BK.out; have hr0 : w9.cell? ⟨gr, 0, none⟩ = some (.string x) := (blk_cell HR.out 0).trans rfl; have hr1 : w9.cell? ⟨gr, 1, none⟩ = some (.string y) := (blk_cell HR.out 1).trans rfl; have hr2 : w9.cell? ⟨gr, 2, none⟩ = some (.string z) := (blk_cell HR.out 2).trans rfl))
  go_upto_region 8 with (first | ((with_reducible refine gate_dst (N := 7) rfl ?_); refine box_event ?hg (N := 7) ?hd (cs := #[.string (⟨#[]⟩ : ByteArray), .int .i64 0, .int .i64 0]) (t := 39) ?hr ?_; (case hd => rfl); (case hg => rfl); (case hr => first | (go_simp; done) | (go_simp; rfl)); intro gp hg w10 hbox hb; have BP := Aside0.mk (hbox); have nrp : Aside0 (gr ≠ gp) := ⟨fun e_ => by have := blk_lt HR.out; omega⟩; have NE : Aside0 (gb ≠ gp) := ⟨fun e_ => by have := blk_lt BK.out; omega⟩; have GP : Aside0 (w.heap.size ≤ gp) := ⟨by rw [hg]; exact HB.out.size⟩; replace BK := Aside0.mk (blk_below BK.out hb); replace HR := Aside0.mk (blk_below HR.out hb); replace HB := Aside0.mk (below_step HB.out hb); clear hb hbox hg hcz0 hcz1 hcz2 hfz0 hfz1 hfz2 hr0 hr1 hr2; obtain ⟨hcz0, hcz1, hcz2, hfz0, hfz1, hfz2⟩ := blk3 BK.out; obtain ⟨hpz0, hpz1, hpz2, hpf0, hpf1, hpf2⟩ := blk3 BP.out; have hr0 : w10.cell? ⟨gr, 0, none⟩ = some (.string x) := (blk_cell HR.out 0).trans rfl; have hr1 : w10.cell? ⟨gr, 1, none⟩ = some (.string y) := (blk_cell HR.out 1).trans rfl; have hr2 : w10.cell? ⟨gr, 2, none⟩ = some (.string z) := (blk_cell HR.out 2).trans rfl))
  refine wp_named_ (fun W => W.heap[gp]? = some (.cells #[.string x, .int .i64 1, .int .i64 n] 39 (0, 0)) ∧ W.heap[gb]? = some (.cells #[.string (⟨#[]⟩ : ByteArray), .int .i64 0, .int .i64 0] 39 (0, 0)) ∧ W.heap[gr]? = some (.cells #[.string x, .string y, .string z] 9 (0, 0)) ∧ Below w.heap.size w W) ⟨by refine blk_put (cs := #[.string x, .int .i64 1, .int .i64 0]) ?_ 2 _ rfl; refine blk_put (cs := #[.string x, .int .i64 0, .int .i64 0]) ?_ 1 _ rfl; refine blk_put (cs := #[.string (⟨#[]⟩ : ByteArray), .int .i64 0, .int .i64 0]) ?_ 0 _ rfl; exact BP.out, blk_far_ (blk_far_ (blk_far_ BK.out NE.out _ _) NE.out _ _) NE.out _ _, blk_far_ (blk_far_ (blk_far_ HR.out nrp.out _ _) nrp.out _ _) nrp.out _ _, by exact below_set (below_set (below_set HB.out GP.out) GP.out) GP.out⟩ ?_
  clear hcz0 hcz1 hcz2 hfz0 hfz1 hfz2 hpz0 hpz1 hpz2 hpf0 hpf1 hpf2 hr0 hr1 hr2
  rintro w11 ⟨hp, hk, hr, hb⟩
  obtain ⟨hpz0, hpz1, hpz2, hpf0, hpf1, hpf2⟩ := blk3 hp
  have hr1 : w11.cell? ⟨gr, 1, none⟩ = some (.string y) := (blk_cell hr 1).trans rfl
  replace BP := Aside0.mk hp
  replace BK := Aside0.mk hk
  replace HB := Aside0.mk hb
  clear hp hk hr hb HR
  go_upto_region 10 with (fail)
  refine wp_named_ (fun W => W.heap[gp]? = some (.cells #[.string x, .int .i64 2, .int .i64 n] 39 (0, 0)) ∧ W.heap[gb]? = some (.cells #[.string (⟨#[]⟩ : ByteArray), .int .i64 0, .int .i64 0] 39 (0, 0)) ∧ Below w.heap.size w W) ⟨blk_put (cs := #[.string x, .int .i64 1, .int .i64 n]) BP.out 1 _ rfl, blk_far_ BK.out NE.out _ _, below_set HB.out GP.out⟩ ?_
  clear hpz0 hpz1 hpz2 hpf0 hpf1 hpf2 hr1
  rintro w13 ⟨hp, hk, hb⟩
  obtain ⟨hpz0, hpz1, hpz2, hpf0, hpf1, hpf2⟩ := blk3 hp
  replace BP := Aside0.mk hp
  replace BK := Aside0.mk hk
  replace HB := Aside0.mk hb
  clear hp hk hb
  have nbp : gb ≠ gp := NE.out
  have npb : gp ≠ gb := fun e_ => NE.out e_.symm
  go_region_held3 (fun w' => w'.cell? ⟨gp, 0, none⟩ = some (.string x) ∧ w'.cell? ⟨gp, 1, none⟩ = some (.int .i64 2) ∧ w'.cell? ⟨gp, 2, none⟩ = some (.int .i64 n)) (first | exact ⟨by assumption, by assumption, by assumption⟩ | go_keep) (first | (go_at_call 32; refine (sign_may.calls x 2 n b _ HM.out).mono ?_; rintro e w12 ⟨rfl, hb⟩; replace BP := Aside0.mk (blk_below (blk_drew BP.out) hb); replace BK := Aside0.mk (blk_below (blk_drew BK.out) hb); replace HB := Aside0.mk (below_step (below_drew1 HB.out) hb); clear hb hpz0 hpz1 hpz2 hpf0 hpf1 hpf2; obtain ⟨hpz0, hpz1, hpz2, hpf0, hpf1, hpf2⟩ := blk3 BP.out; obtain ⟨hcz0, hcz1, hcz2, hfz0, hfz1, hfz2⟩ := blk3 BK.out))
  go_wp2
  refine bodyPost_ret (results_ct rfl _ _ gb 39 #[.string x, .int .i64 2, .int .i64 n] (0, 0) _ rfl (by (with_reducible repeat (first | refine blk_drewN ?_ _ | refine blk_drew ?_ | refine blk_alloc ?_ _)); refine blk_put (cs := #[.string x, .int .i64 2, .int .i64 0]) ?_ 2 _ rfl; refine blk_put (cs := #[.string x, .int .i64 0, .int .i64 0]) ?_ 1 _ rfl; refine blk_put (cs := #[.string (⟨#[]⟩ : ByteArray), .int .i64 0, .int .i64 0]) ?_ 0 _ rfl; (with_reducible repeat (first | refine blk_drewN ?_ _ | refine blk_drew ?_ | refine blk_alloc ?_ _)); exact BK.out) Tryd.underlying39 rfl (by kernel_rfl)) rfl ?_
  exact ⟨rfl, by repeat (first | (with_reducible first | exact HB.out | apply below_alloc | apply pw_below_drewN | apply below_drew1 | refine below_set ?_ GE.out) | exact HB.out)⟩
theorem sign_line.calls (a0 : ByteArray) (r1 : ByteArray) (r2 : Int) (r3 : Int) (r4 : Bool) (w : World) (gl_ : Glob w) (h : sign_line.f a0 = some (r1, r2, r3, r4)) :
  Calls Tryd.prog 26 #[.string a0] w fun e w' => e = .returned (.tuple #[.agg #[.string r1, .int .i64 r2, .int .i64 r3], .bool r4]) ∧ Below w.heap.size w w' := by
 unfold sign_line.f at h
 by_cases hz : a0.size < 4294967281
 case neg => rw [if_neg hz] at h; cases h
 rw [if_pos hz] at h
 have hle := splitB_le ⟨#[32]⟩ (Lib.countB a0 ⟨#[32]⟩) a0
 have zero : some sign_line.z = some (r1, r2, r3, r4) → r1 = ⟨#[]⟩ ∧ r2 = 0 ∧ r3 = 0 ∧ r4 = false := fun h => by
  have h := Option.some.inj h
  simp only [sign_line.z, Prod.mk.injEq] at h
  exact ⟨h.1.symm, h.2.1.symm, h.2.2.1.symm, h.2.2.2.symm⟩
 generalize hl : Lib.splitB ⟨#[32]⟩ 0 (Lib.countB a0 ⟨#[32]⟩) a0 = l at h hle
 by_cases h3 : l.length = 3
 case neg =>
  have h' : some sign_line.z = some (r1, r2, r3, r4) := by
   match l, h3, h with
   | [], _, h => exact h
   | [_], _, h => exact h
   | [_, _], _, h => exact h
   | [_, _, _], h3, _ => exact absurd rfl h3
   | _ :: _ :: _ :: _ :: _, _, h => exact h
  obtain ⟨rfl, rfl, rfl, rfl⟩ := zero h'
  exact sign_line.not3 a0 l hl hz h3 w gl_
 obtain ⟨x, y, z, rfl⟩ : ∃ x y z, l = [x, y, z] := by
  match l, h3 with
  | [x, y, z], _ => exact ⟨x, y, z, rfl⟩
 have hzz : z.size ≤ 281474976710656 := Nat.le_trans (hle z (by simp)) (by omega)
 have both : ∀ kind, (y.toList = ([114, 101, 97, 108] : List UInt8) ∧ kind = 1 ∨ y.toList = ([99, 111, 109, 112, 108, 101, 120] : List UInt8) ∧ kind = 2) → sign_line.t x z kind = some (r1, r2, r3, r4) →
   Calls Tryd.prog 26 #[.string a0] w fun e w' => e = .returned (.tuple #[.agg #[.string r1, .int .i64 r2, .int .i64 r3], .bool r4]) ∧ Below w.heap.size w w' := by
  intro kind hy h
  unfold sign_line.t at h
  cases hc : Lib.atoiAll z.data.toList with
  | ok n =>
   rw [hc] at h
   simp only at h
   by_cases he : (⟨(Lib.itoa n).toArray⟩ : ByteArray).toList = z.toList
   ·rw [if_pos he] at h
    obtain ⟨b, hb, h⟩ := Option.bind_eq_some_iff.mp h
    simp only [Option.some.injEq, Prod.mk.injEq] at h
    obtain ⟨rfl, rfl, rfl, rfl⟩ := h
    exact sign_line.eq a0 x y z kind n b hl hz hzz hy hc he hb w gl_
   ·rw [if_neg he] at h
    obtain ⟨rfl, rfl, rfl, rfl⟩ := zero h
    exact sign_line.ne a0 x y z kind n hl hz hzz hy hc he w gl_
  | _ =>
   rw [hc] at h
   obtain ⟨rfl, rfl, rfl, rfl⟩ := zero h
   exact sign_line.err a0 x y z kind hl hz hzz hy (fun v e => by rw [hc] at e; cases e) w gl_
 simp only [sign_line.g] at h
 by_cases h1 : y.toList = ([114, 101, 97, 108] : List UInt8)
 ·rw [if_pos h1] at h
  exact both 1 (.inl ⟨h1, rfl⟩) h
 ·rw [if_neg h1] at h
  by_cases h2 : y.toList = ([99, 111, 109, 112, 108, 101, 120] : List UInt8)
  ·rw [if_pos h2] at h
   exact both 2 (.inr ⟨h2, rfl⟩) h
  ·rw [if_neg h2] at h
   obtain ⟨rfl, rfl, rfl, rfl⟩ := zero h
   exact sign_line.notk a0 x y z hl hz hzz h1 h2 w gl_

end Go.Proofs.YtojlooflfojdlaaDoor.Q
