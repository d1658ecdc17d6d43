/- Lean functions with the answers of the Go functions that the law reaches, proved to be just these answers. Conditions: those that each theorem names. -/
import Derived.Test.YtmlgidffgojkhaaQx0
import Derived.Test.YtmlgidffgojkhaaQx2
namespace Go.Proofs.Ytmlgidffgojkhaa.Q
open Go.RowKit Go.Proofs.YtmlgidffgojkhaaW.PrintWords Go.Proofs.YtmlgidffgojkhaaW.PrintLast Go.Proofs.YtmlgidffgojkhaaW.PrintMore
attribute [local go_sem] max2_int min2_int max_two min_two max_three min_three max_four min_four   -- for this text's walks alone
set_option linter.unusedVariables false
set_option linter.unusedSimpArgs false

/-! ### mask_those: function 24 -/
def mask_those.g {σ : Type} (step : Int → σ → Option (Bool × σ)) : Nat → Int → Int → List Bool → σ → Option (List Bool × σ)
 | 0, _, _, _, _ => none
 | k + 1, n, i, acc, s => if i < n then (step i s).bind fun b => mask_those.g step k n (i + 1) (acc ++ [b.1]) b.2 else some (acc, s)
theorem mask_those.mono_l {σ : Type} (step : Int → σ → Option (Bool × σ)) : ∀ k n i acc s, LeO (mask_those.g step k n i acc s) (mask_those.g step (k + 1) n i acc s)
 | 0, _, _, _, _ => fun r h => by simp [mask_those.g] at h
 | k + 1, n, i, acc, s => by
  unfold mask_those.g
  exact LeO.ite (LeO.bind (LeO.refl _) (fun _ => mask_those.mono_l step k _ _ _ _)) (LeO.refl _)
theorem mask_those.set_at (bs : List Bool) (b : Bool) (n i : Nat) (hb : bs.length = i) (hi : i < n) : ((bs.map Value.bool) ++ List.replicate (n - i) (Value.bool false)).set i (.bool b) = ((bs ++ [b]).map Value.bool) ++ List.replicate (n - (i + 1)) (Value.bool false) := by
 rw [show n - i = (n - (i + 1)) + 1 from by omega, List.replicate_succ, List.set_append_right _ _ (by simp [hb])]
 simp [hb]
set_option maxHeartbeats 8000000 in
set_option maxRecDepth 100000 in
theorem mask_those.calls {σ : Type} (step : Int → σ → Option (Bool × σ)) (I : World → (Nat → Prop) → σ → Prop) (w0 : World) (F : FuncId) (fn : Func) (caps : Array Value) (hF : Try.prog.funcs[F]? = some fn) (hname : (fn.name == "runtime.NumGoroutine") = false) (hbody : fn.body.isSome = true)
  (hstab : ∀ w w' O s, (∀ b, O b → w'.heap[b]? = w.heap[b]?) → I w O s → I w' O s) (hlt : ∀ w O s, I w O s → ∀ b, O b → w0.heap.size ≤ b ∧ b < w.heap.size)
  (n : Nat) (hn : n ≤ 140737488355328)
  (hc : ∀ (i : Int) (s : σ) (b : Bool) (r : σ) (w : World) (O : Nat → Prop), 0 ≤ i → i < n → Below w0.heap.size w0 w → I w O s → step i s = some (b, r) → Calls Try.prog F (#[.int .i64 i] ++ caps) w fun e w' => e = .returned (.bool b) ∧ ∃ O', I w' O' r ∧ Fr w w' O O')
  (k : Nat) (s r : σ) (bs : List Bool) (w : World) (O : Nat → Prop) (hB : Below w0.heap.size w0 w) (hI : I w O s) (h : mask_those.g step k n 0 [] s = some (bs, r)) :
  Calls Try.prog 24 #[.int .i64 n, .func (.func F) #[] caps] w fun e w' => ∃ v, e = .returned v ∧ ∃ O', I w' O' r ∧ Fr w w' O O' ∧ Kd.R Kd.bool 4 w' w.heap.size (fun k_ => ¬ O' k_) v bs := by
 have hmk : ∀ W : World, (Instr.makeSlice 47 (.int .i64 (n : Int)) (.int .i64 (n : Int))).run Try.prog W = .ok (.slice (some ⟨W.heap.size, 0, none⟩) n n) (W.alloc (.cells (madeCells #[.bool false] n) 4)) := by
  intro W
  obtain ⟨i0, hi, hzz⟩ := Option.map_eq_some_iff.1 info4
  simp only [Prod.mk.injEq] at hzz
  obtain ⟨hz0, hz1, hz2⟩ := hzz
  have := run_make W 47 4 i0 (.bool false) Try.underlying47 hi hz0 .i64 .i64 (n : Int) (n : Int) (by omega) (by omega) (by rw [hz2]; omega) (by omega)
  simpa [hz1, Value.cells] using this
 have HM := Aside0.mk hmk
 have HI := Aside0.mk hI
 have HB := Aside0.mk hB
 have H' := Aside0.mk h
 have HX := Aside0.mk hstab
 have HT := Aside0.mk hlt
 have HCC := Aside0.mk hc
 have hen := fun (args_ : Array Value) (W_ : World) => enters_ (P := Try.prog) hF hname hbody args_ W_
 clear hI hB h hstab hlt hc hF hname hbody HM
 go_enter Try.func24, Try.ntmps24
 go_wp2_with fail
 go_loopg [11] k (fun kq v11 w' => ∃ (i : Nat) (acc : List Bool) (si : σ) (Oi : Nat → Prop) (C : Array Value), v11 = .int .i64 (i : Int) ∧ i ≤ n ∧ acc.length = i ∧ Aside0 (C.toList = acc.map Value.bool ++ List.replicate (n - i) (Value.bool false)) ∧ Aside0 (w'.heap[w.heap.size]? = some (.cells C 4 (0, 0))) ∧ Aside0 (¬ Oi w.heap.size) ∧ Aside0 (mask_those.g step kq n (i : Int) acc si = some (bs, r)) ∧ Aside0 (kq ≤ k) ∧ Aside0 (I w' Oi si) ∧ Aside0 (Fr w w' O Oi))
 case atStart => exact ⟨0, [], s, O, _, rfl, Nat.zero_le _, rfl, ⟨by rw [toList_madeCells_one]; simp⟩, ⟨blk_new w _⟩, ⟨fun ho => by have := (HT.out w O s HI.out _ ho).2; omega⟩, H', ⟨Nat.le_refl _⟩, ⟨HX.out w _ O s (fun b hb => (below_alloc (Below.refl w.heap.size w) _).block b (HT.out w O s HI.out b hb).2) HI.out⟩, ⟨Fr.below (below_alloc (Below.refl _ _) _) O⟩⟩
 case round =>
  clear H'
  obtain ⟨i, acc, si, Oi, C, rfl, hi, hacc, HCL, HBK, HNO, HA, HK1, HIi, HFi⟩ := hrel
  cases gk with
  | zero => exact absurd HA.out (by simp [mask_those.g])
  | succ k1 =>
   have HACC := Aside0.mk hacc
   clear hacc
   by_cases hlti : i < n
   ·have H := HA.out
    simp only [mask_those.g] at H
    rw [if_pos (by omega)] at H
    obtain ⟨⟨b, s2⟩, A20, H⟩ := Option.bind_eq_some_iff.mp H
    have A2 := Aside0.mk A20
    have H' := Aside0.mk H
    clear A20 H HA
    have HBi := Aside0.mk (HFi.out.out HB.out (fun b hb => (HT.out w O s HI.out b hb).1))
    go_wp2_with fail
    refine (HCC.out (i : Int) si b s2 wr Oi (by omega) (by omega) HBi.out HIi.out A2.out).mono ?_
    rintro e w3 ⟨rfl, O2, hI2, hF2⟩
    have hbk := (hF2.block _ (blk_lt HBK.out) HNO.out).trans HBK.out
    have hsz : C.size = n := by
     have := congrArg List.length HCL.out
     have h2 := HACC.out
     simp at this
     omega
    have z0 : w3.cell? ⟨w.heap.size, i, none⟩ = some (.bool false) := by
     rw [blk_cell hbk i, ← Array.getElem?_toList, HCL.out]
     have h2 := HACC.out
     rw [List.getElem?_append_right (by simp; omega), List.length_map, h2, Nat.sub_self, List.getElem?_replicate, if_pos (by omega)]
    have y0 := blk_frozen hbk i
    have HBK2 := Aside0.mk hbk
    have HF2 := Aside0.mk hF2
    have HI2 := Aside0.mk hI2
    have HSZ := Aside0.mk hsz
    clear hbk hsz hF2 hI2
    go_wp2
    go_roundg k1
    case measure => have := HK1.out; omega
    case rel =>
     refine ⟨i + 1, acc ++ [b], s2, O2, C.setIfInBounds i (.bool b), by go_num, by omega, by rw [List.length_append, HACC.out]; rfl, ⟨?_⟩, ⟨blk_set HBK2.out i _⟩, ⟨HF2.out.fresh HNO.out (blk_lt HBK.out)⟩, H', ⟨by have := HK1.out; omega⟩, ⟨HX.out w3 _ O2 s2 (fun b' hb' => Below.heap_setCell _ _ _ _ (fun e => HF2.out.fresh HNO.out (blk_lt HBK.out) (by have e' : b' = w.heap.size := e; rw [← e']; exact hb'))) HI2.out⟩, ⟨(HFi.out.trans HF2.out).set_new (Nat.le_refl _) _⟩⟩
     rw [Array.toList_setIfInBounds, HCL.out]
     exact mask_those.set_at acc b n i HACC.out hlti
   ·have H := HA.out
    simp only [mask_those.g] at H
    rw [if_neg (by omega)] at H
    simp only [Option.some.injEq, Prod.mk.injEq] at H
    obtain ⟨rfl, rfl⟩ := H
    clear HA
    go_wp2
    go_ret
    have hin : i = n := by omega
    have hl : acc.length = n := by rw [HACC.out, hin]
    refine ⟨.slice (some ⟨w.heap.size, 0, none⟩) n n, rfl, Oi, HIi.out, HFi.out, Kd.R_of_own (e := 4) ?_ ?_⟩
    ·refine ⟨by rw [encs_length]; simp, .inr ⟨w.heap.size, n, C, by rw [hl], Nat.le_refl _, HBK.out, by omega, by unfold maxLen; omega, ?_, ?_⟩⟩
     ·have := congrArg List.length HCL.out
      simp at this
      omega
     ·rw [HCL.out, hin, Nat.sub_self, Nat.mul_one, List.replicate_zero, List.append_nil, List.take_of_length_le (by simp)]
      rfl
    ·intro k_ hk
     have e : w.heap.size = k_ := by simpa [Value.ownBlock] using hk
     rw [← e]
     exact HNO.out

/-! ### mask_shape: function 26 -/
def mask_shape.j0 : Nat → ByteArray → Bool → Int → ByteArray → Int → Int → ByteArray → List (S29) → Int → Option (Bool)
 | 0, _, _, _, _, _, _, _, _, _ => none
 | k + 1, x4, x5, x119000, x119001, x119002, x119003, x119004, x119005, x119006 => if x5 = true then (some ((x119005.length : Int) == 0)) else (if x4.toList = ([110, 111, 116] : List UInt8) then (some ((x119005.length : Int) == 1)) else (if x4.toList = ([97, 110, 100] : List UInt8) then (some (decide ((x119005.length : Int) > 0))) else (if x4.toList = ([111, 114] : List UInt8) then (some (decide ((x119005.length : Int) > 0))) else (some false))))
def mask_shape.f (k : Nat) (a0_0 : Int) (a0_1 : ByteArray) (a0_2 : Int) (a0_3 : Int) (a0_4 : ByteArray) (l0_5 : List (S29)) (a0_6 : Int) : Option (Bool) := if a0_1.toList = ([97, 108, 108] : List UInt8) then (mask_shape.j0 k a0_1 (a0_1.toList == ([97, 108, 108] : List UInt8)) a0_0 a0_1 a0_2 a0_3 a0_4 l0_5 a0_6) else (if a0_1.toList = ([110, 111, 110, 101] : List UInt8) then (mask_shape.j0 k a0_1 (a0_1.toList == ([110, 111, 110, 101] : List UInt8)) a0_0 a0_1 a0_2 a0_3 a0_4 l0_5 a0_6) else (if a0_1.toList = ([114, 101, 97, 108] : List UInt8) then (mask_shape.j0 k a0_1 (a0_1.toList == ([114, 101, 97, 108] : List UInt8)) a0_0 a0_1 a0_2 a0_3 a0_4 l0_5 a0_6) else (mask_shape.j0 k a0_1 (a0_1.toList == ([99, 111, 109, 112, 108, 101, 120] : List UInt8)) a0_0 a0_1 a0_2 a0_3 a0_4 l0_5 a0_6)))
theorem mask_shape.mono_l : ∀ k, (∀ y0 y1 y2 y3 y4 y5 y6 y7 y8, LeO (mask_shape.j0 k y0 y1 y2 y3 y4 y5 y6 y7 y8) (mask_shape.j0 (k + 1) y0 y1 y2 y3 y4 y5 y6 y7 y8))
 | 0 => fun _ _ _ _ _ _ _ _ _ r h => by simp [mask_shape.j0] at h
 | k + 1 => by
  have ih0 := mask_shape.mono_l k
  ·intro y0 y1 y2 y3 y4 y5 y6 y7 y8
   unfold mask_shape.j0
   repeat' first
   | (with_reducible exact ih0 _ _ _ _ _ _ _ _ _)
   | (with_reducible exact LeO.refl _)
   | (with_reducible exact LeO.none _)
   | (with_reducible refine LeO.ite ?_ ?_)
   | (with_reducible refine LeO.bind ?_ (fun _ => ?_))
   | exact LeO.none _
   | refine LeO.ite ?_ ?_
   | refine LeO.bind ?_ (fun _ => ?_)
theorem mask_shape.mono : ∀ a0 a1 a2 a3 a4 a5 a6 k, LeO (mask_shape.f k a0 a1 a2 a3 a4 a5 a6) (mask_shape.f (k + 1) a0 a1 a2 a3 a4 a5 a6) := by
 intro a0 a1 a2 a3 a4 a5 a6 k
 have ih0 := mask_shape.mono_l k
 unfold mask_shape.f
 repeat' first
   | (with_reducible exact ih0 _ _ _ _ _ _ _ _ _)
   | (with_reducible exact LeO.refl _)
   | (with_reducible exact LeO.none _)
   | (with_reducible refine LeO.ite ?_ ?_)
   | (with_reducible refine LeO.bind ?_ (fun _ => ?_))
   | exact LeO.none _
   | refine LeO.ite ?_ ?_
   | refine LeO.bind ?_ (fun _ => ?_)
set_option maxHeartbeats 8000000 in
set_option maxRecDepth 100000 in
theorem mask_shape.calls (k : Nat) (a0_0 : Int) (a0_1 : ByteArray) (a0_2 : Int) (a0_3 : Int) (a0_4 : ByteArray) (A0_5 : Option Addr) (c0_5 : Nat) (l0_5 : List (S29)) (a0_6 : Int) (r : Bool) (w : World) (hr0_5 : Kd.C k29 w A0_5 l0_5.length l0_5) (hc0_5 : l0_5.length ≤ c0_5) (h : mask_shape.f k a0_0 a0_1 a0_2 a0_3 a0_4 l0_5 a0_6 = some r) :
  Calls Try.prog 26 #[.agg #[.int .i64 a0_0, .string a0_1, .int .u32 a0_2, .int .i64 a0_3, .string a0_4, .slice A0_5 l0_5.length c0_5, .int .i64 a0_6]] w fun e w' => e = .returned (.bool r) ∧ Below w.heap.size w w' := by
 have hu29 := Try.underlying29
 have HR0_5 := Aside0.mk hr0_5
 have HC0_5 := Aside0.mk hc0_5
 clear hr0_5 hc0_5
 have HB := Aside0.mk (Below.refl w.heap.size w)
 have H : (if a0_1.toList = ([97, 108, 108] : List UInt8) then (mask_shape.j0 k a0_1 (a0_1.toList == ([97, 108, 108] : List UInt8)) a0_0 a0_1 a0_2 a0_3 a0_4 l0_5 a0_6) else (if a0_1.toList = ([110, 111, 110, 101] : List UInt8) then (mask_shape.j0 k a0_1 (a0_1.toList == ([110, 111, 110, 101] : List UInt8)) a0_0 a0_1 a0_2 a0_3 a0_4 l0_5 a0_6) else (if a0_1.toList = ([114, 101, 97, 108] : List UInt8) then (mask_shape.j0 k a0_1 (a0_1.toList == ([114, 101, 97, 108] : List UInt8)) a0_0 a0_1 a0_2 a0_3 a0_4 l0_5 a0_6) else (mask_shape.j0 k a0_1 (a0_1.toList == ([99, 111, 109, 112, 108, 101, 120] : List UInt8)) a0_0 a0_1 a0_2 a0_3 a0_4 l0_5 a0_6)))) = some r := h
 clear h
 have HC2 := Aside0.mk H
 clear H
 go_enter Try.func26, Try.ntmps26
 go_upto_if 5 with (first | ((with_reducible refine gate_dst (N := 1) rfl ?_); refine box_event ?hg (N := 1) ?hd (cs := #[.int .i64 a0_0, .string a0_1, .int .u32 a0_2, .int .i64 a0_3, .string a0_4, .slice A0_5 l0_5.length c0_5, .int .i64 a0_6]) (t := 29) ?hr ?_; (case hd => rfl); (case hg => rfl); (case hr => first | (go_simp; done) | (go_simp; rfl)); intro gb118 hg w3 hbox hb; have BK118 := Aside0.mk (hbox); have GW118 := Aside0.mk ((by rw [hg]; exact (below_size (by repeat (first | (with_reducible first | exact HB.out | apply below_alloc | apply pw_below_drewN | apply below_drew1) | exact HB.out))) : w.heap.size ≤ gb118)); have GE118 := Aside0.mk ((by rw [hg]; exact (below_size (by repeat (first | (with_reducible first | exact HB.out | apply below_alloc | apply pw_below_drewN | apply below_drew1) | exact HB.out))) : w.heap.size ≤ gb118)); replace HB := Aside0.mk (below_step (by repeat (first | (with_reducible first | exact HB.out | apply below_alloc | apply pw_below_drewN | apply below_drew1) | exact HB.out)) hb); clear hb hbox hg; obtain ⟨hcz4_0, hcz4_1, hcz4_2, hcz4_3, hcz4_4, hcz4_5, hcz4_6, hfz4_0, hfz4_1, hfz4_2, hfz4_3, hfz4_4, hfz4_5, hfz4_6⟩ := blk7 BK118.out))
 (try simp only [Act.put, List.setIfInBounds_toArray, List.set_cons_zero, List.set_cons_succ])
 go_cut [5] (fun v5 wc => ∃ (kq : Nat) (x5_1 : Bool), v5 = .bool x5_1 ∧ Aside0 (mask_shape.j0 kq a0_1 x5_1 a0_0 a0_1 a0_2 a0_3 a0_4 l0_5 a0_6 = some r) ∧ Aside0 (kq ≤ k) ∧ Aside0 (wc.heap[gb118]? = some (.cells #[.int .i64 a0_0, .string a0_1, .int .u32 a0_2, .int .i64 a0_3, .string a0_4, (.slice A0_5 l0_5.length c0_5), .int .i64 a0_6] 29 (0, 0))) ∧ Aside0 (Below w.heap.size w wc))
 case first =>
  have H := HC2.out
  clear HC2
  by_cases c5 : a0_1.toList = ([97, 108, 108] : List UInt8)
  ·rw [if_pos c5] at H
   have c5b0 : (a0_1.toList == ([97, 108, 108] : List UInt8)) = true := beq_iff_eq.mpr c5
   have c5b1 : (a0_1.toList != ([97, 108, 108] : List UInt8)) = false := bne_eq_false_iff_eq.mpr c5
   clear c5
   (first | rw [c5b0] | (simp only [i64_w, i32_w]; rw [c5b0]) | skip)
   have H' := Aside0.mk H
   clear H
   go_wp2
   go_meet
   case rel => exact ⟨_, ((a0_1.toList == ([97, 108, 108] : List UInt8))), (by first | rfl | (simp; done) | (simp [*]; done) | (simp; exact (fun l : List UInt8 => (by cases l <;> rfl : l.isEmpty = !(l != []))) _)), H', ⟨by first | omega | exact Nat.le_refl _⟩, ⟨by (with_reducible repeat (first | refine blk_drewN ?_ _ | refine blk_drew ?_ | refine blk_alloc ?_ _)); exact BK118.out⟩, ⟨by repeat (first | (with_reducible first | exact HB.out | apply below_alloc | apply pw_below_drewN | apply below_drew1 | refine below_set ?_ GE118.out) | exact HB.out)⟩⟩
  ·rw [if_neg c5] at H
   have c5b0 : (a0_1.toList == ([97, 108, 108] : List UInt8)) = false := beq_eq_false_iff_ne.mpr c5
   have c5b1 : (a0_1.toList != ([97, 108, 108] : List UInt8)) = true := bne_iff_ne.mpr c5
   (first | rw [c5b0] | (simp only [i64_w, i32_w]; rw [c5b0]) | skip)
   by_cases c6 : a0_1.toList = ([110, 111, 110, 101] : List UInt8)
   ·rw [if_pos c6] at H
    have c6b0 : (a0_1.toList == ([110, 111, 110, 101] : List UInt8)) = true := beq_iff_eq.mpr c6
    have c6b1 : (a0_1.toList != ([110, 111, 110, 101] : List UInt8)) = false := bne_eq_false_iff_eq.mpr c6
    clear c6
    have H' := Aside0.mk H
    clear H
    go_wp2
    go_meet
    case rel => exact ⟨_, ((a0_1.toList == ([110, 111, 110, 101] : List UInt8))), (by first | rfl | (simp; done) | (simp [*]; done) | (simp; exact (fun l : List UInt8 => (by cases l <;> rfl : l.isEmpty = !(l != []))) _)), H', ⟨by first | omega | exact Nat.le_refl _⟩, ⟨by (with_reducible repeat (first | refine blk_drewN ?_ _ | refine blk_drew ?_ | refine blk_alloc ?_ _)); exact BK118.out⟩, ⟨by repeat (first | (with_reducible first | exact HB.out | apply below_alloc | apply pw_below_drewN | apply below_drew1 | refine below_set ?_ GE118.out) | exact HB.out)⟩⟩
   ·rw [if_neg c6] at H
    have c6b0 : (a0_1.toList == ([110, 111, 110, 101] : List UInt8)) = false := beq_eq_false_iff_ne.mpr c6
    have c6b1 : (a0_1.toList != ([110, 111, 110, 101] : List UInt8)) = true := bne_iff_ne.mpr c6
    by_cases c7 : a0_1.toList = ([114, 101, 97, 108] : List UInt8)
    ·rw [if_pos c7] at H
     have c7b0 : (a0_1.toList == ([114, 101, 97, 108] : List UInt8)) = true := beq_iff_eq.mpr c7
     have c7b1 : (a0_1.toList != ([114, 101, 97, 108] : List UInt8)) = false := bne_eq_false_iff_eq.mpr c7
     clear c7
     have H' := Aside0.mk H
     clear H
     go_wp2
     go_meet
     case rel => exact ⟨_, ((a0_1.toList == ([114, 101, 97, 108] : List UInt8))), (by first | rfl | (simp; done) | (simp [*]; done) | (simp; exact (fun l : List UInt8 => (by cases l <;> rfl : l.isEmpty = !(l != []))) _)), H', ⟨by first | omega | exact Nat.le_refl _⟩, ⟨by (with_reducible repeat (first | refine blk_drewN ?_ _ | refine blk_drew ?_ | refine blk_alloc ?_ _)); exact BK118.out⟩, ⟨by repeat (first | (with_reducible first | exact HB.out | apply below_alloc | apply pw_below_drewN | apply below_drew1 | refine below_set ?_ GE118.out) | exact HB.out)⟩⟩
    ·rw [if_neg c7] at H
     have c7b0 : (a0_1.toList == ([114, 101, 97, 108] : List UInt8)) = false := beq_eq_false_iff_ne.mpr c7
     have c7b1 : (a0_1.toList != ([114, 101, 97, 108] : List UInt8)) = true := bne_iff_ne.mpr c7
     have H' := Aside0.mk H
     clear H
     go_wp2
     go_meet
     case rel => exact ⟨_, ((a0_1.toList == ([99, 111, 109, 112, 108, 101, 120] : List UInt8))), (by first | rfl | (simp; done) | (simp [*]; done) | (simp; exact (fun l : List UInt8 => (by cases l <;> rfl : l.isEmpty = !(l != []))) _)), H', ⟨by first | omega | exact Nat.le_refl _⟩, ⟨by (with_reducible repeat (first | refine blk_drewN ?_ _ | refine blk_drew ?_ | refine blk_alloc ?_ _)); exact BK118.out⟩, ⟨by repeat (first | (with_reducible first | exact HB.out | apply below_alloc | apply pw_below_drewN | apply below_drew1 | refine below_set ?_ GE118.out) | exact HB.out)⟩⟩
 case rest =>
  clear HC2
  try clear c2
  try clear p2
  try clear c5
  try clear c5b0
  try clear c5b1
  try clear c6
  try clear c6b0
  try clear c6b1
  try clear c7
  try clear c7b0
  try clear c7b1
  try clear hcz4_0 hcz4_1 hcz4_2 hcz4_3 hcz4_4 hcz4_5 hcz4_6
  try clear hfz4_0 hfz4_1 hfz4_2 hfz4_3 hfz4_4 hfz4_5 hfz4_6
  obtain ⟨kq, x5_1, rfl, HA, HJ1, BK118, HB⟩ := hcut
  cases kq with
  | zero => exact absurd HA.out (by simp [mask_shape.j0])
  | succ kj1 =>
   have H := HA.out
   clear HA
   simp only [mask_shape.j0] at H
   by_cases c8 : x5_1 = true
   ·subst c8
    have H1 : (some ((l0_5.length : Int) == 0)) = some r := by rw [if_pos rfl] at H; exact H
    clear H
    have H := H1
    clear H1
    obtain rfl := Option.some.inj H
    obtain ⟨hcz9_0, hcz9_1, hcz9_2, hcz9_3, hcz9_4, hcz9_5, hcz9_6, hfz9_0, hfz9_1, hfz9_2, hfz9_3, hfz9_4, hfz9_5, hfz9_6⟩ := blk7 BK118.out
    go_wp2
    go_ret
    exact ⟨by first | rfl | (simp [errW_none, errW_some] <;> rfl) | (simp [*, errW_none, errW_some] <;> rfl), by repeat (first | (with_reducible first | exact HB.out | apply below_alloc | apply pw_below_drewN | apply below_drew1 | refine below_set ?_ GE118.out) | exact HB.out)⟩
   ·replace c8 := Bool.eq_false_iff.mpr c8
    subst c8
    have H1 : (if a0_1.toList = ([110, 111, 116] : List UInt8) then (some ((l0_5.length : Int) == 1)) else (if a0_1.toList = ([97, 110, 100] : List UInt8) then (some (decide ((l0_5.length : Int) > 0))) else (if a0_1.toList = ([111, 114] : List UInt8) then (some (decide ((l0_5.length : Int) > 0))) else (some false)))) = some r := by rw [if_neg (show ¬ (false = true) by decide)] at H; exact H
    clear H
    have H := H1
    clear H1
    by_cases c10 : a0_1.toList = ([110, 111, 116] : List UInt8)
    ·rw [if_pos c10] at H
     have c10b0 : (a0_1.toList == ([110, 111, 116] : List UInt8)) = true := beq_iff_eq.mpr c10
     have c10b1 : (a0_1.toList != ([110, 111, 116] : List UInt8)) = false := bne_eq_false_iff_eq.mpr c10
     clear c10
     obtain rfl := Option.some.inj H
     obtain ⟨hcz11_0, hcz11_1, hcz11_2, hcz11_3, hcz11_4, hcz11_5, hcz11_6, hfz11_0, hfz11_1, hfz11_2, hfz11_3, hfz11_4, hfz11_5, hfz11_6⟩ := blk7 BK118.out
     go_wp2
     go_ret
     exact ⟨by first | rfl | (simp [errW_none, errW_some] <;> rfl) | (simp [*, errW_none, errW_some] <;> rfl), by repeat (first | (with_reducible first | exact HB.out | apply below_alloc | apply pw_below_drewN | apply below_drew1 | refine below_set ?_ GE118.out) | exact HB.out)⟩
    ·rw [if_neg c10] at H
     have c10b0 : (a0_1.toList == ([110, 111, 116] : List UInt8)) = false := beq_eq_false_iff_ne.mpr c10
     have c10b1 : (a0_1.toList != ([110, 111, 116] : List UInt8)) = true := bne_iff_ne.mpr c10
     by_cases c12 : a0_1.toList = ([97, 110, 100] : List UInt8)
     ·rw [if_pos c12] at H
      have c12b0 : (a0_1.toList == ([97, 110, 100] : List UInt8)) = true := beq_iff_eq.mpr c12
      have c12b1 : (a0_1.toList != ([97, 110, 100] : List UInt8)) = false := bne_eq_false_iff_eq.mpr c12
      clear c12
      obtain rfl := Option.some.inj H
      obtain ⟨hcz13_0, hcz13_1, hcz13_2, hcz13_3, hcz13_4, hcz13_5, hcz13_6, hfz13_0, hfz13_1, hfz13_2, hfz13_3, hfz13_4, hfz13_5, hfz13_6⟩ := blk7 BK118.out
      go_wp2
      go_ret
      exact ⟨by first | rfl | (simp [errW_none, errW_some] <;> rfl) | (simp [*, errW_none, errW_some] <;> rfl), by repeat (first | (with_reducible first | exact HB.out | apply below_alloc | apply pw_below_drewN | apply below_drew1 | refine below_set ?_ GE118.out) | exact HB.out)⟩
     ·rw [if_neg c12] at H
      have c12b0 : (a0_1.toList == ([97, 110, 100] : List UInt8)) = false := beq_eq_false_iff_ne.mpr c12
      have c12b1 : (a0_1.toList != ([97, 110, 100] : List UInt8)) = true := bne_iff_ne.mpr c12
      by_cases c14 : a0_1.toList = ([111, 114] : List UInt8)
      ·rw [if_pos c14] at H
       have c14b0 : (a0_1.toList == ([111, 114] : List UInt8)) = true := beq_iff_eq.mpr c14
       have c14b1 : (a0_1.toList != ([111, 114] : List UInt8)) = false := bne_eq_false_iff_eq.mpr c14
       clear c14
       obtain rfl := Option.some.inj H
       obtain ⟨hcz15_0, hcz15_1, hcz15_2, hcz15_3, hcz15_4, hcz15_5, hcz15_6, hfz15_0, hfz15_1, hfz15_2, hfz15_3, hfz15_4, hfz15_5, hfz15_6⟩ := blk7 BK118.out
       go_wp2
       go_ret
       exact ⟨by first | rfl | (simp [errW_none, errW_some] <;> rfl) | (simp [*, errW_none, errW_some] <;> rfl), by repeat (first | (with_reducible first | exact HB.out | apply below_alloc | apply pw_below_drewN | apply below_drew1 | refine below_set ?_ GE118.out) | exact HB.out)⟩
      ·rw [if_neg c14] at H
       have c14b0 : (a0_1.toList == ([111, 114] : List UInt8)) = false := beq_eq_false_iff_ne.mpr c14
       have c14b1 : (a0_1.toList != ([111, 114] : List UInt8)) = true := bne_iff_ne.mpr c14
       obtain rfl := Option.some.inj H
       go_wp2
       go_ret
       exact ⟨by first | rfl | (simp [errW_none, errW_some] <;> rfl) | (simp [*, errW_none, errW_some] <;> rfl), by repeat (first | (with_reducible first | exact HB.out | apply below_alloc | apply pw_below_drewN | apply below_drew1 | refine below_set ?_ GE118.out) | exact HB.out)⟩

end Go.Proofs.Ytmlgidffgojkhaa.Q
