/- Lean functions with the answers of the Go functions that the law reaches, proved to be just these answers. Conditions: those that each theorem names. -/
import Derived.Test.YtmlgidffgojkhaaQx0
import Derived.Test.YtmlgidffgojkhaaQx1
import Derived.Test.YtmlgidffgojkhaaQx2
import Derived.Test.YtmlgidffgojkhaaQx3
namespace Go.Proofs.Ytmlgidffgojkhaa.Q
open Go.RowKit Go.Proofs.YtmlgidffgojkhaaW.PrintWords Go.Proofs.YtmlgidffgojkhaaW.PrintLast Go.Proofs.YtmlgidffgojkhaaW.PrintMore
attribute [local go_sem] max2_int min2_int max_two min_two max_three min_three max_four min_four   -- for this text's walks alone
set_option linter.unusedVariables false
set_option linter.unusedSimpArgs false

/-! ### mask_read: function 19 -/
/-- What the blocks from w0's end to W1's hold is as at W1, but for the block ga. -/
def mask_read.Same (w0 W1 : World) (ga : Nat) (w : World) (O : Nat → Prop) : Prop := (∀ b, w0.heap.size ≤ b → b < W1.heap.size → b ≠ ga → w.heap[b]? = W1.heap[b]?) ∧ O = (fun b => w0.heap.size ≤ b ∧ b < W1.heap.size)
/-! #### the first inner function -/
def mask_read.s1 (k : Nat) (nm : ByteArray) (l : List S45) (i : Int) (s : Bool) : Option (Bool × Bool) := (mask_Match.f k nm (rd_T45 l i).f0).bind fun t => some (t, s || t)
def mask_read.I1 (w0 W1 : World) (ga : Nat) (w : World) (O : Nat → Prop) (s : Bool) : Prop := mask_read.Same w0 W1 ga w O ∧ w.heap[ga]? = some (.cells #[.bool s] 4 (0, 0)) ∧ w0.heap.size ≤ ga ∧ ga < W1.heap.size
set_option maxHeartbeats 8000000 in
set_option maxRecDepth 100000 in
theorem mask_read.inner1 (k : Nat) (x : S29) (A5 : Option Addr) (c5 : Nat) (l : List S45) (A1 : Option Addr) (c1 : Nat) (w0 W1 : World) (gn gl ga : Nat) (hgn : w0.heap.size ≤ gn) (hgl : w0.heap.size ≤ gl) (hna : gn ≠ ga) (hla : gl ≠ ga)
  (hbn : W1.heap[gn]? = some (.cells #[.int .i64 x.f0, .string x.f1, .int .u32 x.f2, .int .i64 x.f3, .string x.f4, .slice A5 x.f5.length c5, .int .i64 x.f6] 29 (0, 0)))
  (hbl : W1.heap[gl]? = some (.cells #[.slice A1 l.length c1] 30 (0, 0))) (hl : Kd.C k45 w0 A1 l.length l)
  (i : Int) (s b r : Bool) (w : World) (O : Nat → Prop) (h0 : 0 ≤ i) (h1 : i < l.length) (hB : Below w0.heap.size w0 w) (hI : mask_read.I1 w0 W1 ga w O s) (h : mask_read.s1 k x.f1 l i s = some (b, r)) :
  Calls Try.prog 25 #[.int .i64 i, .pointer (some ⟨gn, 0, none⟩), .pointer (some ⟨gl, 0, none⟩), .pointer (some ⟨ga, 0, none⟩)] w fun e w' => e = .returned (.bool b) ∧ ∃ O', mask_read.I1 w0 W1 ga w' O' r ∧ Fr w w' O O' := by
 unfold mask_read.s1 at h
 obtain ⟨t, ht, h⟩ := Option.bind_eq_some_iff.mp h
 simp only [Option.some.injEq, Prod.mk.injEq] at h
 obtain ⟨rfl, rfl⟩ := h
 obtain ⟨⟨hs, hO⟩, hga, hg0, hg1⟩ := hI
 have hn2 : w.heap[gn]? = _ := (hs gn hgn (blk_lt hbn) hna).trans hbn
 have hl2 : w.heap[gl]? = _ := (hs gl hgl (blk_lt hbl) hla).trans hbl
 have zn : w.cell? ⟨gn, 1, none⟩ = some (.string x.f1) := (blk_cell hn2 1).trans rfl
 have zl : w.cell? ⟨gl, 0, none⟩ = some (.slice A1 l.length c1) := (blk_cell hl2 0).trans rfl
 have za : w.cell? ⟨ga, 0, none⟩ = some (.bool s) := (blk_cell hga 0).trans rfl
 have ya := blk_frozen hga 0
 obtain ⟨ad, e0, hx0, hx1, hx2⟩ := at_T45 hl i h0 h1
 cases e0
 replace hx0 := (hB.cell (World.block_lt_of_cell? w0 _ hx0)).trans hx0
 have HM := Aside0.mk ht
 have HS := Aside0.mk hs
 have HO := Aside0.mk hO
 have HG := Aside0.mk hga
 have hu29 := Try.underlying29
 have hu45 := Try.underlying45
 have p0 := eq_true h0
 have p1 := eq_true h1
 clear hs hO hga hn2 hl2 hbn hbl hx1 hx2 ht hB hl
 go_enter Try.func25, Try.ntmps25
 go_wp2_with fail
 go_quiet ((go_at_call 8; exact Calls.quiet_of ((mask_Match.calls k _ _ t _ HM.out).mono fun _ _ hh => ⟨hh.1, by obtain ⟨m_, hm_⟩ := hh.2.out; exact ⟨m_, hm_⟩⟩)))
 cases s
 all_goals
  go_wp2
  go_ret
  refine ⟨rfl, O, ⟨⟨fun b hb0 hb1 hb2 => (Below.heap_setCell _ _ _ _ hb2).trans (HS.out b hb0 hb1 hb2), HO.out⟩, blk_put (blk_drewN HG.out _) 0 _ rfl, hg0, hg1⟩, ⟨rfl, rfl, rfl, by simp [World.setCell], fun b hb hn => ?_, fun b hb => .inl hb⟩⟩
  refine Below.heap_setCell _ _ _ _ (fun e => hn ?_)
  have e' : b = ga := e
  rw [HO.out, e']
  exact ⟨hg0, hg1⟩
/-! #### the second inner function -/
def mask_read.cnt : List (List Bool) → Int → Int → Option Int
 | [], _, c => some c
 | s :: ss, i, c => if i < s.length then mask_read.cnt ss i (if rdOf false s i = true then wrap64 (c + 1) else c) else none
def mask_read.s2 (nm : ByteArray) (l : List S45) (kids : List (List Bool)) (i : Int) : Option Bool :=
 if nm.toList = ([97, 108, 108] : List UInt8) then some true
 else if nm.toList = ([114, 101, 97, 108] : List UInt8) then some ((rd_T45 l i).f1 == 1)
 else if nm.toList = ([99, 111, 109, 112, 108, 101, 120] : List UInt8) then some ((rd_T45 l i).f1 == 2)
 else if nm.toList = ([110, 111, 116] : List UInt8) then (match kids with | [] => none | s :: _ => if i < s.length then some (!rdOf false s i) else none)
 else (mask_read.cnt kids i 0).bind fun c => some ((nm.toList == ([97, 110, 100] : List UInt8) && c == (kids.length : Int)) || (nm.toList == ([111, 114] : List UInt8) && decide (c > 0)))
theorem mask_read.add_zero_' (a : Addr) : a.add 0 = a := by unfold Addr.add; simp
theorem mask_read.kid {w : World} {A : Option Addr} {kids : List (List Bool)} (h : Kd.C (Kd.slice 4 Kd.bool) w A kids.length kids) (j : Nat) (hj : j < kids.length) :
  ∃ ad B c, A = some ad ∧ w.cell? (ad.add j) = some (.slice B (kids.getD j []).length c) ∧ Kd.C Kd.bool w B (kids.getD j []).length (kids.getD j []) := by
 obtain ⟨ad, c, e, _, ⟨B, c', rfl, _, hC⟩, hcell⟩ := Kd.C_get h [] (j : Int) (by omega) (by omega)
 have hsz : (Kd.slice 4 Kd.bool).sz = 1 := rfl
 rw [Int.toNat_natCast] at *
 have := hcell 0 _ rfl
 rw [hsz, Nat.mul_one, Nat.add_zero] at this
 exact ⟨ad, B, c', e, this, hC⟩
set_option maxHeartbeats 8000000 in
set_option maxRecDepth 100000 in
theorem mask_read.inner2 (x : S29) (A5 : Option Addr) (c5 : Nat) (l : List S45) (A1 : Option Addr) (c1 : Nat) (kids : List (List Bool)) (Ak : Option Addr) (ck : Nat) (gn gl gz : Nat) (i : Int) (b : Bool) (w : World)
  (hbn : w.heap[gn]? = some (.cells #[.int .i64 x.f0, .string x.f1, .int .u32 x.f2, .int .i64 x.f3, .string x.f4, .slice A5 x.f5.length c5, .int .i64 x.f6] 29 (0, 0)))
  (hbl : w.heap[gl]? = some (.cells #[.slice A1 l.length c1] 30 (0, 0))) (hl : Kd.C k45 w A1 l.length l)
  (hbk : w.heap[gz]? = some (.cells #[.slice Ak kids.length ck] 60 (0, 0))) (hk : Kd.C (Kd.slice 4 Kd.bool) w Ak kids.length kids)
  (h0 : 0 ≤ i) (h1 : i < l.length) (h : mask_read.s2 x.f1 l kids i = some b) :
  Calls Try.prog 27 #[.int .i64 i, .pointer (some ⟨gn, 0, none⟩), .pointer (some ⟨gl, 0, none⟩), .pointer (some ⟨gz, 0, none⟩)] w fun e w' => e = .returned (.bool b) ∧ Drawn0 w w' := by
 have zn : w.cell? ⟨gn, 1, none⟩ = some (.string x.f1) := (blk_cell hbn 1).trans rfl
 have zl : w.cell? ⟨gl, 0, none⟩ = some (.slice A1 l.length c1) := (blk_cell hbl 0).trans rfl
 have zk : w.cell? ⟨gz, 0, none⟩ = some (.slice Ak kids.length ck) := (blk_cell hbk 0).trans rfl
 obtain ⟨ad, e0, hx0, hx1, hx2⟩ := at_T45 hl i h0 h1
 cases e0
 have hu29 := Try.underlying29
 have hu45 := Try.underlying45
 have p0 := eq_true h0
 have p1 := eq_true h1
 have HK := Aside0.mk hk
 have H := h
 unfold mask_read.s2 at H
 clear hbn hbl hbk hk hx0 hx2 h hl
 by_cases c1_ : x.f1.toList = ([97, 108, 108] : List UInt8)
 ·rw [if_pos c1_] at H
  obtain rfl := Option.some.inj H
  have d1 := beq_iff_eq.mpr c1_
  clear H c1_
  go_enter Try.func27, Try.ntmps27
  go_wp2
  go_ret
  exact ⟨rfl, by repeat (first | exact Drawn0.refl _ | apply Drawn0.step)⟩
 rw [if_neg c1_] at H
 have d1 : (x.f1.toList == ([97, 108, 108] : List UInt8)) = false := beq_eq_false_iff_ne.mpr c1_
 clear c1_
 by_cases c2_ : x.f1.toList = ([114, 101, 97, 108] : List UInt8)
 ·rw [if_pos c2_] at H
  obtain rfl := Option.some.inj H
  have d2 := beq_iff_eq.mpr c2_
  clear H c2_
  go_enter Try.func27, Try.ntmps27
  go_wp2
  go_ret
  exact ⟨rfl, by repeat (first | exact Drawn0.refl _ | apply Drawn0.step)⟩
 rw [if_neg c2_] at H
 have d2 : (x.f1.toList == ([114, 101, 97, 108] : List UInt8)) = false := beq_eq_false_iff_ne.mpr c2_
 clear c2_
 by_cases c3_ : x.f1.toList = ([99, 111, 109, 112, 108, 101, 120] : List UInt8)
 ·rw [if_pos c3_] at H
  obtain rfl := Option.some.inj H
  have d3 := beq_iff_eq.mpr c3_
  clear H c3_
  go_enter Try.func27, Try.ntmps27
  go_wp2
  go_ret
  exact ⟨rfl, by repeat (first | exact Drawn0.refl _ | apply Drawn0.step)⟩
 rw [if_neg c3_] at H
 have d3 : (x.f1.toList == ([99, 111, 109, 112, 108, 101, 120] : List UInt8)) = false := beq_eq_false_iff_ne.mpr c3_
 clear c3_ hx1
 by_cases c4_ : x.f1.toList = ([110, 111, 116] : List UInt8)
 ·rw [if_pos c4_] at H
  have d4 := beq_iff_eq.mpr c4_
  cases kids with
  | nil => cases H
  | cons s ss =>
   dsimp only at H
   by_cases c5_ : i < s.length
   case neg => rw [if_neg c5_] at H; cases H
   rw [if_pos c5_] at H
   obtain rfl := Option.some.inj H
   obtain ⟨ak, B, cB, eA, hz, hC⟩ := mask_read.kid HK.out 0 (by simp)
   simp only [List.getD_cons_zero] at hz hC
   obtain ⟨ab, eB, hy⟩ := Kd.at_bool hC i h0 c5_
   subst eA
   subst eB
   have p5 := eq_true c5_
   have p6 : (0 < (s :: ss).length) = True := eq_true (by simp)
   have p7 : ((0 : Int) < ((s :: ss).length : Int)) = True := eq_true (by first | (simp; done) | omega)
   rw [mask_read.add_zero_'] at hz
   clear H c4_ c5_ hC
   generalize (s :: ss).length = n_ at *
   go_enter Try.func27, Try.ntmps27
   go_wp2
   go_ret
   exact ⟨rfl, by repeat (first | exact Drawn0.refl _ | apply Drawn0.step)⟩
 rw [if_neg c4_] at H
 have d4 : (x.f1.toList == ([110, 111, 116] : List UInt8)) = false := beq_eq_false_iff_ne.mpr c4_
 clear c4_
 obtain ⟨cf, hcf, H⟩ := Option.bind_eq_some_iff.mp H
 have HB := Aside0.mk (Option.some.inj H)
 have HC := Aside0.mk hcf
 have hlen := HK.out.2.1
 clear H hcf
 by_cases c5_ : x.f1.toList = ([97, 110, 100] : List UInt8)
 case' pos => have d5 : (x.f1.toList == ([97, 110, 100] : List UInt8)) = true := beq_iff_eq.mpr c5_
 case' neg => have d5 : (x.f1.toList == ([97, 110, 100] : List UInt8)) = false := beq_eq_false_iff_ne.mpr c5_
 all_goals
  clear c5_
  go_enter Try.func27, Try.ntmps27
  go_wp2
  go_loopg [6, 40] kids.length (fun kq v6 v40 w' => ∃ (j : Nat) (c : Int), v6 = .int .i64 c ∧ v40 = .int .i64 (j : Int) ∧ j ≤ kids.length ∧ kq = kids.length - j ∧ Aside0 (mask_read.cnt (kids.drop j) i c = some cf) ∧ Drawn0 w w')
  case atStart => exact ⟨0, 0, rfl, rfl, Nat.zero_le _, by simp, ⟨by rw [List.drop_zero]; exact HC.out⟩, by repeat (first | exact Drawn0.refl _ | apply Drawn0.step)⟩
  case round =>
   obtain ⟨j, c, rfl, rfl, hj, hgk, HA, ⟨m_, rfl⟩⟩ := hrel
   by_cases hlt : j < kids.length
   ·have hd : kids.drop j = kids.getD j [] :: kids.drop (j + 1) := by
     rw [List.drop_eq_getElem_cons hlt]
     simp [List.getElem?_eq_getElem hlt]
    have HG := Aside0.mk hgk
    have H := HA.out
    rw [hd] at H
    obtain ⟨ak, B, cB, eA, hz, hC⟩ := mask_read.kid HK.out j hlt
    generalize kids.getD j [] = s at *
    simp only [mask_read.cnt] at H
    by_cases c6_ : i < s.length
    case neg => rw [if_neg c6_] at H; cases H
    rw [if_pos c6_] at H
    obtain ⟨ab, eB, hy⟩ := Kd.at_bool hC i h0 c6_
    subst eA
    subst eB
    have p6 := eq_true c6_
    clear c6_ hC HA hd hgk
    generalize rdOf false s i = bv at H hy
    have HH := Aside0.mk H
    clear H
    cases bv
    all_goals
     go_wp2
     go_roundg (kids.length - (j + 1))
     case measure => have := HG.out; omega
     case rel => exact ⟨j + 1, _, rfl, by go_num, by omega, rfl, ⟨by simpa using HH.out⟩, by repeat (first | exact Drawn0.refl _ | apply Drawn0.step)⟩
   ·have hd : kids.drop j = [] := List.drop_of_length_le (by omega)
    have H := HA.out
    rw [hd] at H
    simp only [mask_read.cnt] at H
    have hc' := Option.some.inj H
    subst hc'
    obtain rfl : kids.length = j := by omega
    clear H HA hd hgk
    go_wp2
    all_goals
     go_ret
     refine ⟨?_, by repeat (first | exact Drawn0.refl _ | apply Drawn0.step)⟩
     rw [← HB.out]
     clear HB HC
     simp [*]
/-! #### the function itself -/
mutual
def mask_read.g : Nat → S29 → List S45 → Bool → Option (List Bool × Option (Int × Int))
 | 0, _, _, _ => none
 | k + 1, x, l, root =>
  if root = false ∧ ¬ x.f4.toList = ([] : List UInt8) then some ([], some (110, x.f6))
  else if x.f0 = 5 then
   (if l.length ≤ 140737488355328 then (mask_those.g (mask_read.s1 k x.f1 l) k l.length 0 [] false).bind fun r => (if r.2 = true then some (r.1, none) else some ([], some (111, x.f6))) else none)
  else if x.f0 = 1 then
   (mask_shape.f k x.f0 x.f1 x.f2 x.f3 x.f4 x.f5 x.f6).bind fun sh => (if sh = true then
    ((mask_read.gl k x.f5 l []).bind fun r => match r.2 with
     | some f => some ([], some f)
     | none => (if l.length ≤ 140737488355328 then (mask_those.g (fun i (_ : Unit) => (mask_read.s2 x.f1 l r.1 i).map (fun b => (b, ()))) k l.length 0 [] ()).bind fun q => some (q.1, none) else none))
    else some ([], some (110, x.f6)))
  else some ([], some (110, x.f6))
def mask_read.gl : Nat → List S29 → List S45 → List (List Bool) → Option (List (List Bool) × Option (Int × Int))
 | 0, _, _, _ => none
 | _ + 1, [], _, acc => some (acc, none)
 | k + 1, y :: ys, l, acc => (mask_read.g k y l false).bind fun r => match r.2 with
   | some f => some ([], some f)
   | none => (if (acc.length + 1) * 24 ≤ 140737488355328 then mask_read.gl k ys l (acc ++ [r.1]) else none)
end
/-- What a call of read leaves. -/
def mask_read.Out (w w' : World) (e : Ending) (r : List Bool × Option (Int × Int)) : Prop :=
 ∃ v p : Value, e = .returned (.tuple #[v, p]) ∧ Below w.heap.size w w' ∧ ((r.2 = none ∧ p = .pointer none ∧ Kd.R Kd.bool 4 w' w.heap.size (fun _ => True) v r.1) ∨
  (∃ f g, r.2 = some f ∧ p = .pointer (some ⟨g, 0, none⟩) ∧ w.heap.size ≤ g ∧ w'.heap[g]? = some (.cells #[.int .i64 f.1, .int .i64 f.2] 52 (0, 0))))
set_option maxHeartbeats 8000000 in
set_option maxRecDepth 100000 in
theorem mask_read.key_fault (x : S29) (A5 : Option Addr) (c5 : Nat) (l : List S45) (A1 : Option Addr) (c1 : Nat) (w : World) (hkey : ¬ x.f4.toList = ([] : List UInt8)) :
  Calls Try.prog 19 #[.agg #[.int .i64 x.f0, .string x.f1, .int .u32 x.f2, .int .i64 x.f3, .string x.f4, .slice A5 x.f5.length c5, .int .i64 x.f6], .slice A1 l.length c1, .bool false] w fun e w' => mask_read.Out w w' e ([], some (110, x.f6)) := by
 have d0 : (x.f4.toList == ([] : List UInt8)) = false := beq_eq_false_iff_ne.mpr hkey
 have d1 : (x.f4.toList != ([] : List UInt8)) = true := bne_iff_ne.mpr hkey
 have hu29 := Try.underlying29
 go_enter Try.func19, Try.ntmps19
 go_wp2
 go_region
 all_goals
  go_wp2
  exact bodyPost_ret (v := .tuple #[.slice none 0 0, .pointer (some ⟨w.heap.size + 1 + 1, 0, none⟩)]) (by simp [results, go_sem]) rfl ⟨_, _, rfl, below_drew (below_alloc (below_alloc (below_alloc (Below.refl _ _) _) _) _), .inr ⟨_, _, rfl, rfl, by omega, blk_drew (by simpa using blk_new ((w.alloc _).alloc _) _)⟩⟩
set_option maxHeartbeats 8000000 in
set_option maxRecDepth 100000 in
theorem mask_read.else_fault (k : Nat) (x : S29) (A5 : Option Addr) (c5 : Nat) (hc5 : x.f5.length ≤ c5) (l : List S45) (A1 : Option Addr) (c1 : Nat) (root : Bool) (w : World) (hC : Kd.C k29 w A5 x.f5.length x.f5) (hkey : root = true ∨ x.f4.toList = ([] : List UInt8)) (h5 : ¬ x.f0 = 5)
  (hsh : x.f0 = 1 → mask_shape.f k x.f0 x.f1 x.f2 x.f3 x.f4 x.f5 x.f6 = some false) :
  Calls Try.prog 19 #[.agg #[.int .i64 x.f0, .string x.f1, .int .u32 x.f2, .int .i64 x.f3, .string x.f4, .slice A5 x.f5.length c5, .int .i64 x.f6], .slice A1 l.length c1, .bool root] w fun e w' => mask_read.Out w w' e ([], some (110, x.f6)) := by
 have hu29 := Try.underlying29
 have e5 : (x.f0 == 5) = false := beq_eq_false_iff_ne.mpr h5
 have HC := Aside0.mk hC
 have HS := Aside0.mk hsh
 clear hC h5 hsh
 have hk : root = true ∨ ((x.f4.toList == ([] : List UInt8)) = true ∧ (x.f4.toList != ([] : List UInt8)) = false) := hkey.imp id (fun h => ⟨beq_iff_eq.mpr h, by rw [h]; rfl⟩)
 clear hkey
 by_cases h1 : x.f0 = 1
 ·have e1 : (x.f0 == 1) = true := beq_iff_eq.mpr h1
  have e1' : (x.f0 != 1) = false := by rw [h1]; rfl
  have HM := Aside0.mk (HS.out h1)
  clear HS h1
  cases root
  case' false =>
   obtain ⟨d0, d1⟩ := hk.resolve_left (by decide)
  all_goals
   clear hk
   go_enter Try.func19, Try.ntmps19
   go_wp2_with fail
   refine (mask_shape.calls k x.f0 x.f1 x.f2 x.f3 x.f4 A5 c5 x.f5 x.f6 false _ (Kd.C_below HC.out (below_alloc (below_alloc (Below.refl _ _) _) _)) hc5 HM.out).mono ?_
   rintro e w3 ⟨rfl, hb⟩
   have hbk := blk_below (blk_alloc (blk_new w (.cells #[.int .i64 x.f0, .string x.f1, .int .u32 x.f2, .int .i64 x.f3, .string x.f4, .slice A5 x.f5.length c5, .int .i64 x.f6] 29 (0, 0))) (.cells #[.slice A1 l.length c1] 30 (0, 0))) hb
   have z6 : w3.cell? ⟨w.heap.size, 6, none⟩ = some (.int .i64 x.f6) := (blk_cell hbk 6).trans rfl
   have HB := Aside0.mk (below_then (below_alloc (below_alloc (Below.refl w.heap.size w) _) _) (by simp; omega) hb)
   clear hb hbk
   go_wp2
   go_region
   go_wp2
   exact bodyPost_ret (v := .tuple #[.slice none 0 0, .pointer (some ⟨w3.heap.size, 0, none⟩)]) (by simp [results, go_sem]) rfl ⟨_, _, rfl, below_drew (below_alloc HB.out _), .inr ⟨_, _, rfl, rfl, HB.out.size, blk_drew (blk_new w3 _)⟩⟩
 ·have e1 : (x.f0 == 1) = false := beq_eq_false_iff_ne.mpr h1
  have e1' : (x.f0 != 1) = true := bne_iff_ne.mpr h1
  clear HS h1
  cases root
  case' false =>
   obtain ⟨d0, d1⟩ := hk.resolve_left (by decide)
  all_goals
   clear hk
   go_enter Try.func19, Try.ntmps19
   go_wp2
   go_region
   go_wp2
   exact bodyPost_ret (v := .tuple #[.slice none 0 0, .pointer (some ⟨w.heap.size + 1 + 1, 0, none⟩)]) (by simp [results, go_sem]) rfl ⟨_, _, rfl, below_drew (below_alloc (below_alloc (below_alloc (Below.refl _ _) _) _) _), .inr ⟨_, _, rfl, rfl, by omega, blk_drew (by simpa using blk_new ((w.alloc _).alloc _) _)⟩⟩
set_option maxHeartbeats 8000000 in
set_option maxRecDepth 100000 in
theorem mask_read.text (k : Nat) (x : S29) (A5 : Option Addr) (c5 : Nat) (l : List S45) (A1 : Option Addr) (c1 : Nat) (root : Bool) (w : World) (hl : Kd.C k45 w A1 l.length l) (hn : l.length ≤ 140737488355328) (hkey : root = true ∨ x.f4.toList = ([] : List UInt8)) (h5 : x.f0 = 5) (r : List Bool × Bool)
  (h : mask_those.g (mask_read.s1 k x.f1 l) k l.length 0 [] false = some r) :
  Calls Try.prog 19 #[.agg #[.int .i64 x.f0, .string x.f1, .int .u32 x.f2, .int .i64 x.f3, .string x.f4, .slice A5 x.f5.length c5, .int .i64 x.f6], .slice A1 l.length c1, .bool root] w fun e w' => mask_read.Out w w' e (if r.2 = true then (r.1, none) else ([], some (111, x.f6))) := by
 have hu29 := Try.underlying29
 have e5 : (x.f0 == 5) = true := beq_iff_eq.mpr h5
 have HH := Aside0.mk h
 have HL := Aside0.mk hl
 clear h5 h hl
 have hk : root = true ∨ ((x.f4.toList == ([] : List UInt8)) = true ∧ (x.f4.toList != ([] : List UInt8)) = false) := hkey.imp id (fun h => ⟨beq_iff_eq.mpr h, by rw [h]; rfl⟩)
 clear hkey
 obtain ⟨bs, any⟩ := r
 obtain ⟨W1, hW1⟩ : ∃ W1, W1 = ((w.alloc (.cells #[.int .i64 x.f0, .string x.f1, .int .u32 x.f2, .int .i64 x.f3, .string x.f4, .slice A5 x.f5.length c5, .int .i64 x.f6] 29 (0, 0))).alloc (.cells #[.slice A1 l.length c1] 30 (0, 0))).alloc (.cells #[.bool false] 4 (0, 0)) := ⟨_, rfl⟩
 have hs1 : W1.heap.size = w.heap.size + 3 := by rw [hW1]; simp
 have hbn : W1.heap[w.heap.size]? = some (.cells #[.int .i64 x.f0, .string x.f1, .int .u32 x.f2, .int .i64 x.f3, .string x.f4, .slice A5 x.f5.length c5, .int .i64 x.f6] 29 (0, 0)) := by rw [hW1]; exact blk_alloc (blk_alloc (blk_new w _) _) _
 have hbl : W1.heap[w.heap.size + 1]? = some (.cells #[.slice A1 l.length c1] 30 (0, 0)) := by rw [hW1]; exact blk_alloc (by simpa using blk_new (w.alloc _) _) _
 have hba : W1.heap[w.heap.size + 1 + 1]? = some (.cells #[.bool false] 4 (0, 0)) := by rw [hW1]; simpa using blk_new ((w.alloc _).alloc _) _
 have hB1 : Below w.heap.size w W1 := by rw [hW1]; exact below_alloc (below_alloc (below_alloc (Below.refl _ _) _) _) _
 have hst := mask_those.calls (mask_read.s1 k x.f1 l) (mask_read.I1 w W1 (w.heap.size + 1 + 1)) w 25 Try.f25 #[.pointer (some ⟨w.heap.size, 0, none⟩), .pointer (some ⟨w.heap.size + 1, 0, none⟩), .pointer (some ⟨w.heap.size + 1 + 1, 0, none⟩)] Try.func25 (by kernel_rfl) rfl
  (fun wa wb O s hb hI => ⟨⟨fun b hb0 hb1 hb2 => (hb b (by rw [hI.1.2]; exact ⟨hb0, hb1⟩)).trans (hI.1.1 b hb0 hb1 hb2), hI.1.2⟩, (hb _ (by rw [hI.1.2]; exact ⟨hI.2.2.1, hI.2.2.2⟩)).trans hI.2.1, hI.2.2⟩)
  (fun wa O s hI b hb => by
   have hb' := hb
   rw [hI.1.2] at hb'
   refine ⟨hb'.1, ?_⟩
   by_cases he : b = w.heap.size + 1 + 1
   ·rw [he]; exact blk_lt hI.2.1
   ·have h1 := hI.1.1 b hb'.1 hb'.2 he
    have h2 : W1.heap[b]? = some (W1.heap[b]'hb'.2) := Array.getElem?_eq_getElem hb'.2
    exact blk_lt (h1.trans h2))
  l.length hn
  (fun i s b r wa O h0 h1 hB hI h => calls_of_args rfl (mask_read.inner1 k x A5 c5 l A1 c1 w W1 _ _ _ (by omega) (by omega) (by omega) (by omega) hbn hbl HL.out i s b r wa O h0 h1 hB hI h))
  k false any bs W1 _ hB1 ⟨⟨fun _ _ _ _ => rfl, rfl⟩, hba, by omega, by omega⟩ HH.out
 have HST := Aside0.mk hst
 have HBN := Aside0.mk hbn
 have HB1 := Aside0.mk hB1
 have HS1 := Aside0.mk hs1
 clear hst hbn hbl hba hB1 hs1
 subst hW1
 cases root
 case' false =>
  obtain ⟨d0, d1⟩ := hk.resolve_left (by decide)
 all_goals
  clear hk
  go_enter Try.func19, Try.ntmps19
  go_wp2_with fail
  refine HST.out.mono ?_
  rintro e w3 ⟨v, rfl, O', hI, hF, hR⟩
  have hn3 := (hI.1.1 w.heap.size (Nat.le_refl _) (by have := HS1.out; omega) (by omega)).trans HBN.out
  have z6 : w3.cell? ⟨w.heap.size, 6, none⟩ = some (.int .i64 x.f6) := (blk_cell hn3 6).trans rfl
  have za : w3.cell? ⟨w.heap.size + 1 + 1, 0, none⟩ = some (.bool any) := (blk_cell hI.2.1 0).trans rfl
  have HB := Aside0.mk (hF.out HB1.out (fun b hb => hb.1))
  have HR := Aside0.mk (Kd.R_mono (Kd.R_lower hR HB1.out.size) (ok' := fun _ => True) (fun _ _ => trivial))
  clear hI hF hR hn3 HST HBN
  cases any
  ·go_wp2
   go_region
   go_wp2
   exact bodyPost_ret (v := .tuple #[.slice none 0 0, .pointer (some ⟨w3.heap.size, 0, none⟩)]) (by simp [results, go_sem]) rfl ⟨_, _, rfl, below_drew (below_alloc HB.out _), .inr ⟨_, _, rfl, rfl, HB.out.size, blk_drew (blk_new w3 _)⟩⟩
  ·go_wp2
   go_ret2
   exact ⟨_, _, rfl, HB.out, .inl ⟨rfl, rfl, HR.out⟩⟩
/-! #### a call's mask -/
theorem mask_read.infoK : (Try.prog.info? 47).map (fun i => (i.zero, i.size, i.bytes)) = some (some (.slice none 0 0), 1, 24) := by kernel_rfl
theorem mask_read.undK : Try.prog.underlying 60 = some (.slice 47) := by kernel_rfl
/-- The world stays as it was where it matters: the second inner function's state. -/
def mask_read.I2 (w0 W1 : World) (w : World) (O : Nat → Prop) (_ : Unit) : Prop := (∀ b, w0.heap.size ≤ b → b < W1.heap.size → w.heap[b]? = W1.heap[b]?) ∧ O = (fun b => w0.heap.size ≤ b ∧ b < W1.heap.size)
theorem mask_read.last (k : Nat) (x : S29) (A5 : Option Addr) (c5 : Nat) (l : List S45) (A1 : Option Addr) (c1 : Nat) (w W1 : World) (gn gl gz : Nat) (vk : Value) (kids : List (List Bool)) (ok : Nat → Prop) (hgn : w.heap.size ≤ gn) (hgl : w.heap.size ≤ gl) (hgz : w.heap.size ≤ gz)
  (hl : Kd.C k45 w A1 l.length l) (hn : l.length ≤ 140737488355328) (hB : Below w.heap.size w W1)
  (hbn : W1.heap[gn]? = some (.cells #[.int .i64 x.f0, .string x.f1, .int .u32 x.f2, .int .i64 x.f3, .string x.f4, .slice A5 x.f5.length c5, .int .i64 x.f6] 29 (0, 0))) (hbl : W1.heap[gl]? = some (.cells #[.slice A1 l.length c1] 30 (0, 0))) (hbk : W1.heap[gz]? = some (.cells #[vk] 60 (0, 0)))
  (hR : Kd.R (Kd.slice 4 Kd.bool) 47 W1 w.heap.size ok vk kids) (bs : List Bool)
  (h : mask_those.g (fun i (_ : Unit) => (mask_read.s2 x.f1 l kids i).map (fun b => (b, ()))) k l.length 0 [] () = some (bs, ())) :
  Calls Try.prog 24 #[.int .i64 l.length, .func (.func 27) #[] #[.pointer (some ⟨gn, 0, none⟩), .pointer (some ⟨gl, 0, none⟩), .pointer (some ⟨gz, 0, none⟩)]] W1 fun e w' => ∃ v, e = .returned v ∧ Below w.heap.size w w' ∧ Kd.R Kd.bool 4 w' w.heap.size (fun _ => True) v bs := by
 have same : ∀ wa : World, Below w.heap.size w wa → (∀ b, w.heap.size ≤ b → b < W1.heap.size → wa.heap[b]? = W1.heap[b]?) → ∀ b, b < W1.heap.size → wa.heap[b]? = W1.heap[b]? := by
  intro wa hBa hI b hb
  by_cases hlt : b < w.heap.size
  ·rw [hBa.block b hlt, hB.block b hlt]
  ·exact hI b (by omega) hb
 refine (mask_those.calls _ (mask_read.I2 w W1) w 27 Try.f27 #[.pointer (some ⟨gn, 0, none⟩), .pointer (some ⟨gl, 0, none⟩), .pointer (some ⟨gz, 0, none⟩)] Try.func27 (by kernel_rfl) rfl
  (fun wa wb O s hb hI => ⟨fun b hb0 hb1 => (hb b (by rw [hI.2]; exact ⟨hb0, hb1⟩)).trans (hI.1 b hb0 hb1), hI.2⟩)
  (fun wa O s hI b hb => by
   have hb' := hb
   rw [hI.2] at hb'
   refine ⟨hb'.1, ?_⟩
   have h1 := hI.1 b hb'.1 hb'.2
   have h2 : W1.heap[b]? = some (W1.heap[b]'hb'.2) := Array.getElem?_eq_getElem hb'.2
   exact blk_lt (h1.trans h2))
  l.length hn
  (fun i s b r wa O h0 h1 hBa hI h => by
   obtain ⟨b', hb', hbe⟩ := Option.map_eq_some_iff.1 h
   simp only [Prod.mk.injEq] at hbe
   obtain ⟨rfl, _⟩ := hbe
   have hs := same wa hBa hI.1
   obtain ⟨Ak, ck, rfl, hle, hC⟩ := Kd.R_reads (Kd.R_step hR (fun k_ _ hk => hs k_ hk))
   refine calls_of_args rfl ((mask_read.inner2 x A5 c5 l A1 c1 kids Ak ck gn gl gz i b' wa ((hs gn (blk_lt hbn)).trans hbn) ((hs gl (blk_lt hbl)).trans hbl) (Kd.C_below hl hBa) ((hs gz (blk_lt hbk)).trans hbk) hC h0 h1 hb').mono ?_)
   rintro e w' ⟨rfl, hD⟩
   refine ⟨rfl, O, ?_, Fr.below hD.below O⟩
   obtain ⟨m_, rfl⟩ := hD.out
   exact ⟨hI.1, hI.2⟩)
  k () () bs W1 (fun b => w.heap.size ≤ b ∧ b < W1.heap.size) hB ⟨fun _ _ _ => rfl, rfl⟩ h).mono ?_
 rintro e w' ⟨v, rfl, O', hI, hF, hRv⟩
 exact ⟨v, rfl, hF.out hB (fun b hb => hb.1), Kd.R_mono (Kd.R_lower hRv hB.size) (fun _ _ => trivial)⟩
set_option maxHeartbeats 8000000 in
set_option maxRecDepth 100000 in
theorem mask_read.calls (k : Nat) : ∀ (x : S29) (cs : List Value) (l : List S45) (A1 : Option Addr) (c1 : Nat) (root : Bool) (r : List Bool × Option (Int × Int)) (w : World), k29.K w x cs → Kd.C k45 w A1 l.length l → mask_read.g k x l root = some r →
  Calls Try.prog 19 #[.agg cs.toArray, .slice A1 l.length c1, .bool root] w fun e w' => mask_read.Out w w' e r := by
 induction k using Nat.strongRecOn with
 | _ k ih =>
 intro x cs l A1 c1 root r w hK hl h
 cases k with
 | zero => exact absurd h (by simp [mask_read.g])
 | succ k =>
 obtain ⟨A5, c5, rfl, hc5, hC5⟩ := k29_open hK
 rw [mask_read.g] at h
 by_cases hkey : root = false ∧ ¬ x.f4.toList = ([] : List UInt8)
 ·rw [if_pos hkey] at h
  obtain rfl := Option.some.inj h
  obtain ⟨rfl, hk2⟩ := hkey
  exact mask_read.key_fault x A5 c5 l A1 c1 w hk2
 rw [if_neg hkey] at h
 have hk2 : root = true ∨ x.f4.toList = ([] : List UInt8) := by
  cases root
  ·exact .inr (Decidable.byContradiction fun hh => hkey ⟨rfl, hh⟩)
  ·exact .inl rfl
 clear hkey
 by_cases h5 : x.f0 = 5
 ·rw [if_pos h5] at h
  by_cases hn : l.length ≤ 140737488355328
  ·rw [if_pos hn] at h
   obtain ⟨q, hq, h⟩ := Option.bind_eq_some_iff.mp h
   have hr : (if q.2 = true then (q.1, none) else ([], some (111, x.f6))) = r := by
    split at h
    ·rename_i hq2; rw [if_pos hq2]; exact Option.some.inj h
    ·rename_i hq2; rw [if_neg hq2]; exact Option.some.inj h
   rw [← hr]
   exact mask_read.text k x A5 c5 l A1 c1 root w hl hn hk2 h5 q hq
  ·rw [if_neg hn] at h; cases h
 rw [if_neg h5] at h
 by_cases h1 : x.f0 = 1
 ·rw [if_pos h1] at h
  obtain ⟨sh, hsh, h⟩ := Option.bind_eq_some_iff.mp h
  cases sh with
  | false =>
   rw [if_neg (by decide)] at h
   obtain rfl := Option.some.inj h
   exact mask_read.else_fault k x A5 c5 hc5 l A1 c1 root w hC5 hk2 h5 (fun _ => hsh)
  | true =>
   rw [if_pos rfl] at h
   obtain ⟨q, hq, h⟩ := Option.bind_eq_some_iff.mp h
   have hu29 := Try.underlying29
   have e5 : (x.f0 == 5) = false := beq_eq_false_iff_ne.mpr h5
   have e1 : (x.f0 == 1) = true := beq_iff_eq.mpr h1
   have e1' : (x.f0 != 1) = false := by rw [h1]; rfl
   have hk : root = true ∨ ((x.f4.toList == ([] : List UInt8)) = true ∧ (x.f4.toList != ([] : List UInt8)) = false) := hk2.imp id (fun h => ⟨beq_iff_eq.mpr h, by rw [h]; rfl⟩)
   have HM := Aside0.mk hsh
   have HC := Aside0.mk hC5
   have HL := Aside0.mk hl
   have HK := Aside0.mk hK
   have HQ := Aside0.mk hq
   have HF := Aside0.mk h
   have IH := Aside0.mk ih
   have hlen := hC5.2.1
   clear h5 h1 hk2 hsh hC5 hl hK hq h ih
   cases root
   case' false =>
    obtain ⟨d0, d1⟩ := hk.resolve_left (by decide)
   all_goals
    clear hk
    go_enter Try.func19, Try.ntmps19
    go_wp2_with fail
    refine (mask_shape.calls k x.f0 x.f1 x.f2 x.f3 x.f4 A5 c5 x.f5 x.f6 true _ (Kd.C_below HC.out (below_alloc (below_alloc (Below.refl _ _) _) _)) hc5 HM.out).mono ?_
    rintro e w3 ⟨rfl, hb⟩
    have hbn := blk_below (blk_alloc (blk_new w (.cells #[.int .i64 x.f0, .string x.f1, .int .u32 x.f2, .int .i64 x.f3, .string x.f4, .slice A5 x.f5.length c5, .int .i64 x.f6] 29 (0, 0))) (.cells #[.slice A1 l.length c1] 30 (0, 0))) hb
    have hbl : w3.heap[w.heap.size + 1]? = some (.cells #[.slice A1 l.length c1] 30 (0, 0)) := blk_below (by simpa using blk_new (w.alloc _) _) hb
    have hw3 : w.heap.size + 2 ≤ w3.heap.size := by have := hb.size; simp at this; omega
    have z0 : w3.cell? ⟨w.heap.size, 0, none⟩ = some (.int .i64 x.f0) := (blk_cell hbn 0).trans rfl
    have z5 : ∀ o_, (w3.alloc o_).cell? ⟨w.heap.size, 5, none⟩ = some (.slice A5 x.f5.length c5) := fun o_ => (blk_cell (blk_alloc hbn o_) 5).trans rfl
    have HB := Aside0.mk (below_then (below_alloc (below_alloc (Below.refl w.heap.size w) _) _) (by simp; omega) hb)
    have HBN := Aside0.mk hbn
    have HBL := Aside0.mk hbl
    have HW3 := Aside0.mk hw3
    clear hb hbn hbl hw3
    go_wp2_with fail
    clear z0 z5
    go_loopg [57] k (fun kq v57 w' => ∃ (j : Nat) (acc : List (List Bool)) (vk : Value), v57 = .int .i64 (j : Int) ∧ j ≤ x.f5.length ∧ Aside0 (mask_read.gl kq (x.f5.drop j) l acc = some q) ∧ Aside0 (kq ≤ k) ∧
     Aside0 (w'.heap[w.heap.size]? = some (.cells #[.int .i64 x.f0, .string x.f1, .int .u32 x.f2, .int .i64 x.f3, .string x.f4, .slice A5 x.f5.length c5, .int .i64 x.f6] 29 (0, 0))) ∧ Aside0 (w'.heap[w.heap.size + 1]? = some (.cells #[.slice A1 l.length c1] 30 (0, 0))) ∧ Aside0 (w'.heap[w3.heap.size]? = some (.cells #[vk] 60 (0, 0))) ∧
     Aside0 (Kd.R (Kd.slice 4 Kd.bool) 47 w' w.heap.size (fun b => b ≠ w.heap.size ∧ b ≠ w.heap.size + 1 ∧ b ≠ w3.heap.size) vk acc) ∧ Aside0 (Below w.heap.size w w'))
    case atStart => exact ⟨0, [], .slice none 0 0, rfl, Nat.zero_le _, ⟨by rw [List.drop_zero]; exact HQ.out⟩, ⟨Nat.le_refl _⟩, ⟨blk_alloc HBN.out _⟩, ⟨blk_alloc HBL.out _⟩, ⟨blk_new w3 _⟩, ⟨Kd.R_nil _ _ _ _ _⟩, ⟨below_alloc HB.out _⟩⟩
    case round =>
     clear HBN HBL HQ HB
     obtain ⟨j, acc, vk, rfl, hj, HA, HK1, HBN, HBL, HBZ, HRK, HB⟩ := hrel
     cases gk with
     | zero => exact absurd HA.out (by simp [mask_read.gl])
     | succ k1 =>
      by_cases hlt : j < x.f5.length
      ·have hd : x.f5.drop j = rd_T29 x.f5 (j : Int) :: x.f5.drop (j + 1) := by
        rw [List.drop_eq_getElem_cons hlt]
        simp [rd_T29, List.getElem?_eq_getElem hlt]
       have H := HA.out
       rw [hd] at H
       simp only [mask_read.gl] at H
       obtain ⟨r2, A20, H⟩ := Option.bind_eq_some_iff.mp H
       have A2 := Aside0.mk A20
       have H' := Aside0.mk H
       clear A20 H HA hd
       obtain ⟨ad, B5, e5_, e0, hx0, hx1, hx2, hx3, hx4, hx5, hx6, hl5, hg5⟩ := at_T29 HC.out (j : Int) (by omega) (by omega)
       cases e0
       have KE := Aside0.mk (k29_mk w (rd_T29 x.f5 (j : Int)) hl5 hg5)
       clear hl5 hg5
       replace hx0 := (HB.out.cell (World.block_lt_of_cell? w _ hx0)).trans hx0
       replace hx1 := (HB.out.cell (World.block_lt_of_cell? w _ hx1)).trans hx1
       replace hx2 := (HB.out.cell (World.block_lt_of_cell? w _ hx2)).trans hx2
       replace hx3 := (HB.out.cell (World.block_lt_of_cell? w _ hx3)).trans hx3
       replace hx4 := (HB.out.cell (World.block_lt_of_cell? w _ hx4)).trans hx4
       replace hx5 := (HB.out.cell (World.block_lt_of_cell? w _ hx5)).trans hx5
       replace hx6 := (HB.out.cell (World.block_lt_of_cell? w _ hx6)).trans hx6
       rw [Int.toNat_natCast] at hx0 hx1 hx2 hx3 hx4 hx5 hx6
       have zl : ∀ o_, (wr.alloc o_).cell? ⟨w.heap.size + 1, 0, none⟩ = some (.slice A1 l.length c1) := fun o_ => (blk_cell (blk_alloc HBL.out o_) 0).trans rfl
       go_wp2_with fail
       refine (IH.out k1 (by have := HK1.out; omega) (rd_T29 x.f5 (j : Int)) _ l A1 c1 false r2 _ ((k29).K_below (below_alloc HB.out _) KE.out) (Kd.C_below HL.out (below_alloc HB.out _)) A2.out).mono ?_
       rintro e w4 ⟨v, p, rfl, hB4, hcase⟩
       have hsz4 : wr.heap.size + 1 ≤ w4.heap.size := by have := hB4.size; simpa using this
       have HB4 := Aside0.mk (below_then HB.out HB.out.size (below_then (below_alloc (Below.refl wr.heap.size wr) _) (by simp) hB4))
       rcases hcase with ⟨hr2, rfl, hRv⟩ | ⟨f, g, hr2, rfl, hg0, hg1⟩
       ·have H := H'.out
        rw [hr2] at H
        dsimp only at H
        by_cases hcap : (acc.length + 1) * 24 ≤ 140737488355328
        case neg => rw [if_neg hcap] at H; cases H
        rw [if_pos hcap] at H
        have HG := Aside0.mk H
        have bz4 := blk_below (blk_alloc HBZ.out _) hB4
        have HRK4 := Aside0.mk (Kd.R_below (Kd.R_below HRK.out (below_alloc (Below.refl _ _) _)) hB4)
        have HBN4 := Aside0.mk (blk_below (blk_alloc HBN.out _) hB4)
        have HBL4 := Aside0.mk (blk_below (blk_alloc HBL.out _) hB4)
        have HBZ4 := Aside0.mk bz4
        have z10 : w4.cell? ⟨w3.heap.size, 0, none⟩ = some vk := (blk_cell bz4 0).trans rfl
        have y10 := blk_frozen bz4 0
        have own : ∀ k_, vk.ownBlock = some k_ → k_ < wr.heap.size := by
         obtain ⟨inner_, ho_⟩ := Kd.R_own HRK.out
         exact fun k_ hk_ => own_lt ho_ k_ hk_
        have hz3 := blk_lt HBZ.out
        have hz1 := blk_lt HBN.out
        have hz2 := blk_lt HBL.out
        have HRV := Aside0.mk (Kd.R_lower (Kd.R_bound hRv) (show w.heap.size ≤ _ from Nat.le_trans HB.out.size (by simp)))
        have HCAP := Aside0.mk hcap
        have HOWN := Aside0.mk own
        have HRN := Aside0.mk hRv
        clear hRv hr2 H H' bz4 own hcap
        obtain ⟨Av, cv, hv⟩ := Kd.R_slice HRN.out
        subst hv
        obtain ⟨Ak, ck, hvk⟩ := Kd.R_slice HRK4.out
        subst hvk
        go_wp2_with (first
         | ((with_reducible refine gate_builtin (b := .append) (xs := #[.tmp 70, .tmp 72]) rfl ?_); at_builtin; refine Kd.R_append (Kd.slice 4 Kd.bool) (w0 := w) w.heap.size rfl (.tmp 70) (.tmp 72) 60 47 (.slice none 0 0) 24 rfl mask_read.undK mask_read.infoK rfl (by decide) (by omega) (.slice Ak acc.length ck) acc r2.1 [.slice Av r2.1.length cv] (fun b => b ≠ w.heap.size ∧ b ≠ w.heap.size + 1 ∧ b ≠ w3.heap.size) _ rfl rfl ⟨_, rfl, HRV.out⟩ ?aP ?aF HRK4.out HB4.out HB4.out.size HCAP.out ?_; (case aP => exact fun k_ hk_ => ⟨by have h1 := hk_.2.1; simp at h1; omega, fun he => by have h1 := hk_.2.1; have h2 := HOWN.out k_ he.symm; simp at h1; omega⟩); (case aF => exact fun k_ hk_ => by omega); intro v5 w5 hR5 hB5 hg5 hat5; obtain ⟨A5_, c5_, hv5⟩ := Kd.R_slice hR5; subst hv5; have hne : ∀ g_, (g_ = w.heap.size ∨ g_ = w.heap.size + 1 ∨ g_ = w3.heap.size) → some g_ ≠ (Value.slice Ak acc.length ck).ownBlock := (fun g_ hg_ he => by have := HRK4.out.1 g_ he.symm; omega); have bn5 := Aside0.mk (blk_grown HBN4.out hg5 (hne _ (.inl rfl))); have bl5 := Aside0.mk (blk_grown HBL4.out hg5 (hne _ (.inr (.inl rfl)))); have bz5 := blk_grown HBZ4.out hg5 (hne _ (.inr (.inr rfl))); have z11 : w5.cell? ⟨w3.heap.size, 0, none⟩ = some (.slice Ak acc.length ck) := (blk_cell bz5 0).trans rfl; have y11 := blk_frozen bz5 0; have HBZ5 := Aside0.mk bz5; have HR5 := Aside0.mk hR5; have HB5 := Aside0.mk hB5; clear hne bz5 hR5 hB5 hg5 hat5)
         | fail)
        go_roundg k1
        case measure => have := HK1.out; omega
        case rel =>
         refine ⟨j + 1, acc ++ [r2.1], _, by go_num, by omega, HG, ⟨by have := HK1.out; omega⟩, ⟨blk_far bn5.out (by show w.heap.size ≠ w3.heap.size; have := HW3.out; omega) _⟩, ⟨blk_far bl5.out (by show w.heap.size + 1 ≠ w3.heap.size; have := HW3.out; omega) _⟩, ⟨blk_put HBZ5.out 0 _ rfl⟩, ⟨by have h_ := HR5.out; rw [List.length_append] at h_; exact Kd.R_far h_ (fun k_ hk_ => hk_.2.2) _⟩, ⟨below_set HB5.out (by have := HW3.out; omega)⟩⟩
       ·have H := H'.out
        rw [hr2] at H
        dsimp only at H
        obtain rfl := Option.some.inj H
        have HFF := HF.out
        dsimp only at HFF
        obtain rfl := Option.some.inj HFF
        clear H H' HFF
        go_wp2
        go_ret2
        exact ⟨_, _, rfl, HB4.out, .inr ⟨f, g, rfl, rfl, Nat.le_trans HB.out.size (by have := hg0; simp at this; omega), hg1⟩⟩
      ·have hd : x.f5.drop j = [] := List.drop_of_length_le (by omega)
       have H := HA.out
       rw [hd] at H
       simp only [mask_read.gl] at H
       obtain rfl := Option.some.inj H
       clear HA hd H
       have HF' := HF.out
       dsimp only at HF'
       by_cases hn : l.length ≤ 140737488355328
       case neg => rw [if_neg hn] at HF'; cases HF'
       rw [if_pos hn] at HF'
       obtain ⟨⟨bs, _⟩, hbs, hr⟩ := Option.bind_eq_some_iff.mp HF'
       obtain rfl := Option.some.inj hr
       have HBS := Aside0.mk hbs
       have zl : wr.cell? ⟨w.heap.size + 1, 0, none⟩ = some (.slice A1 l.length c1) := (blk_cell HBL.out 0).trans rfl
       have HN := Aside0.mk hn
       clear HF' hbs hr hn
       go_wp2_with fail
       refine (mask_read.last k x A5 c5 l A1 c1 w wr w.heap.size (w.heap.size + 1) w3.heap.size vk acc _ (Nat.le_refl _) (by omega) (by have := HW3.out; omega) HL.out HN.out HB.out HBN.out HBL.out HBZ.out HRK.out bs HBS.out).mono ?_
       rintro e w4 ⟨v, rfl, hB4, hR4⟩
       have H4 := Aside0.mk hB4
       have R4 := Aside0.mk hR4
       clear hB4 hR4
       go_wp2
       go_ret2
       exact ⟨_, _, rfl, H4.out, .inl ⟨rfl, rfl, R4.out⟩⟩
 rw [if_neg h1] at h
 obtain rfl := Option.some.inj h
 exact mask_read.else_fault k x A5 c5 hc5 l A1 c1 root w hC5 hk2 h5 (fun hh => absurd hh h1)
theorem mask_read.mono_l : ∀ k, (∀ x l root, LeO (mask_read.g k x l root) (mask_read.g (k + 1) x l root)) ∧ (∀ ys l acc, LeO (mask_read.gl k ys l acc) (mask_read.gl (k + 1) ys l acc))
 | 0 => ⟨fun _ _ _ r h => by simp [mask_read.g] at h, fun _ _ _ r h => by simp [mask_read.gl] at h⟩
 | k + 1 => by
  obtain ⟨ih0, ih1⟩ := mask_read.mono_l k
  have hs : ∀ nm l i s, LeO (mask_read.s1 k nm l i s) (mask_read.s1 (k + 1) nm l i s) := fun nm l i s => LeO.bind (mask_Match.mono _ _ k) (fun _ => LeO.refl _)
  have ht : ∀ (f g : Int → Bool → Option (Bool × Bool)), (∀ i s, LeO (f i s) (g i s)) → ∀ k n i acc s, LeO (mask_those.g f k n i acc s) (mask_those.g g k n i acc s) := by
   intro f g hfg k
   induction k with
   | zero => intro n i acc s; exact LeO.refl _
   | succ k ih =>
    intro n i acc s
    unfold mask_those.g
    exact LeO.ite (LeO.bind (hfg _ _) (fun _ => ih _ _ _ _)) (LeO.refl _)
  refine ⟨fun x l root => ?_, fun ys l acc => ?_⟩
  ·rw [mask_read.g, mask_read.g]
   refine LeO.ite (LeO.refl _) (LeO.ite (LeO.ite (LeO.bind (LeO.trans (mask_those.mono_l _ k _ _ _ _) (ht _ _ (hs _ _) _ _ _ _ _)) (fun _ => LeO.refl _)) (LeO.refl _)) (LeO.ite (LeO.bind (mask_shape.mono _ _ _ _ _ _ _ k) (fun sh => LeO.ite (LeO.bind (ih1 _ _ _) (fun r => ?_)) (LeO.refl _))) (LeO.refl _)))
   cases r.2 with
   | some f => exact LeO.refl _
   | none => exact LeO.ite (LeO.bind (mask_those.mono_l _ k _ _ _ _) (fun _ => LeO.refl _)) (LeO.refl _)
  ·cases ys with
   | nil => rw [mask_read.gl, mask_read.gl]; exact LeO.refl _
   | cons y ys =>
    rw [mask_read.gl, mask_read.gl]
    refine LeO.bind (ih0 _ _ _) (fun r => ?_)
    cases r.2 with
    | some f => exact LeO.refl _
    | none => exact LeO.ite (ih1 _ _ _) (LeO.refl _)

/-! ### mask_Set: function 12 -/
def mask_Set.l (s : List Bool) : Nat → Int → List Int → Option (List Int)
 | 0, _, out => some out
 | n + 1, i, out => if i < s.length then (if rdOf false s i = true then (if (out.length + 1) * 8 ≤ 140737488355328 then mask_Set.l s n (i + 1) (out ++ [i]) else none) else mask_Set.l s n (i + 1) out) else none
def mask_Set.f (k : Nat) (a0_0 : Int) (a0_1 : ByteArray) (a0_2 : Int) (a0_3 : Int) (a0_4 : ByteArray) (l0_5 : List (S29)) (a0_6 : Int) (l1 : List (S45)) : Option (List Int × Int × Int) :=
 (tree_Depth.f k a0_0 a0_1 a0_2 a0_3 a0_4 l0_5 a0_6).bind fun d => (if d > 64 then some ([], 81, a0_6) else
  (mask_read.g k ⟨a0_0, a0_1, a0_2, a0_3, a0_4, l0_5, a0_6⟩ l1 true).bind fun r => match r.2 with
   | some f => some ([], f.1, f.2)
   | none => (mask_Set.l r.1 l1.length 0 []).bind fun out => some (out, 0, 0))
theorem mask_Set.mono : ∀ a0 a1 a2 a3 a4 a5 a6 a7 k, LeO (mask_Set.f k a0 a1 a2 a3 a4 a5 a6 a7) (mask_Set.f (k + 1) a0 a1 a2 a3 a4 a5 a6 a7) := by
 intro a0 a1 a2 a3 a4 a5 a6 a7 k
 unfold mask_Set.f
 refine LeO.bind (tree_Depth.mono _ _ _ _ _ _ _ k) (fun _ => LeO.ite (LeO.refl _) (LeO.bind ((mask_read.mono_l k).1 _ _ _) (fun r => ?_)))
 cases r.2 <;> exact LeO.refl _
theorem mask_Set.infoI : (Try.prog.info? 3).map (fun i => (i.zero, i.size, i.bytes)) = some (some (.int .i64 0), 1, 8) := by kernel_rfl
set_option maxHeartbeats 8000000 in
set_option maxRecDepth 100000 in
theorem mask_Set.calls (k : Nat) (a0_0 : Int) (a0_1 : ByteArray) (a0_2 : Int) (a0_3 : Int) (a0_4 : ByteArray) (A0_5 : Option Addr) (c0_5 : Nat) (l0_5 : List (S29)) (a0_6 : Int) (A1 : Option Addr) (c1 : Nat) (l1 : List (S45)) (r1 : List Int) (r2 : Int) (r3 : Int) (w : World) (hr0_5 : Kd.C k29 w A0_5 l0_5.length l0_5) (hc0_5 : l0_5.length ≤ c0_5) (hr1 : Kd.C k45 w A1 l1.length l1) (hc1 : l1.length ≤ c1) (h : mask_Set.f k a0_0 a0_1 a0_2 a0_3 a0_4 l0_5 a0_6 l1 = some (r1, r2, r3)) :
  Calls Try.prog 12 #[.agg #[.int .i64 a0_0, .string a0_1, .int .u32 a0_2, .int .i64 a0_3, .string a0_4, .slice A0_5 l0_5.length c0_5, .int .i64 a0_6], .slice A1 l1.length c1] w fun e w' => ∃ v0_ : Value, e = .returned (.tuple #[v0_, .int .i64 r2, .int .i64 r3]) ∧ Kd.R (Kd.int .i64) 3 w' w.heap.size (fun _ => True) v0_ r1 ∧ Below w.heap.size w w' := by
 have hu29 := Try.underlying29
 have hu52 := Try.underlying52
 have hlen := hr1.2.1
 have HC := Aside0.mk hr0_5
 have HL := Aside0.mk hr1
 have KK := Aside0.mk (k29_mk w ⟨a0_0, a0_1, a0_2, a0_3, a0_4, l0_5, a0_6⟩ hc0_5 hr0_5)
 unfold mask_Set.f at h
 obtain ⟨d, hd, h⟩ := Option.bind_eq_some_iff.mp h
 have HD := Aside0.mk hd
 have H := Aside0.mk h
 clear hd h hr0_5 hr1
 go_enter Try.func12, Try.ntmps12
 go_wp2_with fail
 refine (tree_Depth.calls k a0_0 a0_1 a0_2 a0_3 a0_4 A0_5 c0_5 l0_5 a0_6 d _ (Kd.C_below HC.out (below_alloc (Below.refl _ _) _)) hc0_5 HD.out).mono ?_
 rintro e w3 ⟨rfl, hb⟩
 have hbn := blk_below (blk_new w (.cells #[.int .i64 a0_0, .string a0_1, .int .u32 a0_2, .int .i64 a0_3, .string a0_4, .slice A0_5 l0_5.length c0_5, .int .i64 a0_6] 29 (0, 0))) hb
 have z0 : w3.cell? ⟨w.heap.size, 0, none⟩ = some (.int .i64 a0_0) := (blk_cell hbn 0).trans rfl
 have z1 : w3.cell? ⟨w.heap.size, 1, none⟩ = some (.string a0_1) := (blk_cell hbn 1).trans rfl
 have z2 : w3.cell? ⟨w.heap.size, 2, none⟩ = some (.int .u32 a0_2) := (blk_cell hbn 2).trans rfl
 have z3 : w3.cell? ⟨w.heap.size, 3, none⟩ = some (.int .i64 a0_3) := (blk_cell hbn 3).trans rfl
 have z4 : w3.cell? ⟨w.heap.size, 4, none⟩ = some (.string a0_4) := (blk_cell hbn 4).trans rfl
 have z5 : w3.cell? ⟨w.heap.size, 5, none⟩ = some (.slice A0_5 l0_5.length c0_5) := (blk_cell hbn 5).trans rfl
 have z6 : w3.cell? ⟨w.heap.size, 6, none⟩ = some (.int .i64 a0_6) := (blk_cell hbn 6).trans rfl
 have HB := Aside0.mk (below_then (below_alloc (Below.refl w.heap.size w) _) (by simp) hb)
 clear hb hbn
 by_cases c1_ : d > 64
 ·have HH := H.out
  rw [if_pos c1_] at HH
  simp only [Option.some.injEq, Prod.mk.injEq] at HH
  obtain ⟨rfl, rfl, rfl⟩ := HH
  have q1 : decide (64 < d) = true := decide_eq_true c1_
  clear H HD c1_
  go_wp2
  go_quiet (fail)
  go_wp2
  go_ret3
  exact ⟨_, rfl, Kd.R_nil _ _ _ _ _, by first | exact HB.out | exact pw_below_drewN HB.out _⟩
 ·have HH := H.out
  rw [if_neg c1_] at HH
  obtain ⟨r, hr, HH⟩ := Option.bind_eq_some_iff.mp HH
  have q1 : decide (64 < d) = false := decide_eq_false c1_
  have HR := Aside0.mk hr
  have H2 := Aside0.mk HH
  clear H HD c1_ hr HH
  go_wp2_with fail
  refine (mask_read.calls k _ _ l1 A1 c1 true r _ (k29.K_below HB.out KK.out) (Kd.C_below HL.out HB.out) HR.out).mono ?_
  rintro e w4 ⟨v, p, rfl, hB4, hcase⟩
  have HB4 := Aside0.mk (below_then HB.out HB.out.size hB4)
  rcases hcase with ⟨hr2, rfl, hRv⟩ | ⟨f, g, hr2, rfl, hg0, hg1⟩
  ·have HH := H2.out
   rw [hr2] at HH
   dsimp only at HH
   obtain ⟨out, hout, hh⟩ := Option.bind_eq_some_iff.mp HH
   simp only [Option.some.injEq, Prod.mk.injEq] at hh
   obtain ⟨rfl, rfl, rfl⟩ := hh
   have HO := Aside0.mk hout
   have HRV := Aside0.mk hRv
   clear H2 hr2 HH hRv hB4 hout z0 z1 z2 z3 z4 z5 z6
   obtain ⟨Av, cv, hv⟩ := Kd.R_slice HRV.out
   subst hv
   go_wp2
   go_loopg [9, 34] l1.length (fun kq v9 v34 w' => ∃ (j : Nat) (acc : List Int), v34 = .int .i64 (j : Int) ∧ j ≤ l1.length ∧ kq = l1.length - j ∧ Aside0 (mask_Set.l r.1 (l1.length - j) (j : Int) acc = some out) ∧ Aside0 (Kd.R (Kd.int .i64) 3 w' w4.heap.size (fun _ => True) v9 acc) ∧ Aside0 (Below w4.heap.size w4 w'))
   case atStart => exact ⟨0, [], rfl, Nat.zero_le _, rfl, HO, ⟨Kd.R_nil _ _ _ _ _⟩, ⟨Below.refl _ _⟩⟩
   case round =>
    clear HO
    obtain ⟨j, acc, rfl, hj, hgk, HA, HR9, HW⟩ := hrel
    have HG := Aside0.mk hgk
    by_cases hlt : j < l1.length
    ·have HH := HA.out
     rw [show l1.length - j = (l1.length - (j + 1)) + 1 from by omega] at HH
     simp only [mask_Set.l] at HH
     by_cases hin : (j : Int) < r.1.length
     case neg => rw [if_neg hin] at HH; cases HH
     rw [if_pos hin] at HH
     obtain ⟨ad, e0, hx⟩ := Kd.at_bool (Kd.R_reads' (Kd.R_below HRV.out HW.out)).2.2 (j : Int) (by omega) hin
     cases e0
     rw [Int.toNat_natCast] at hx
     have hin2 : j < r.1.length := by omega
     clear HA hgk hin
     by_cases hb : rdOf false r.1 (j : Int) = true
     ·rw [if_pos hb] at HH
      rw [hb] at hx
      by_cases hcap : (acc.length + 1) * 8 ≤ 140737488355328
      case neg => rw [if_neg hcap] at HH; cases HH
      rw [if_pos hcap] at HH
      have HN := Aside0.mk HH
      have HCAP := Aside0.mk hcap
      clear HH hcap hb
      go_wp2_with (first
       | ((with_reducible refine gate_builtin (b := .append) (xs := #[.tmp 41, .tmp 43]) rfl ?_); at_builtin; refine Kd.R_append (Kd.int .i64) (w0 := w4) w4.heap.size rfl (.tmp 41) (.tmp 43) 32 3 (.int .i64 0) 8 rfl Try.underlying32 mask_Set.infoI rfl (by decide) (by omega) u9 acc (j : Int) [.int .i64 (j : Int)] (fun _ => True) (fun _ => False) rfl rfl rfl (fun _ hk => hk.elim) (fun _ _ => trivial) HR9.out HW.out HW.out.size HCAP.out ?_; intro v5 w5 hR5 hB5 hg5 hat5; have HR5 := Aside0.mk hR5; have HW5 := Aside0.mk hB5; clear hR5 hB5 hg5 hat5)
       | fail)
      go_roundg (l1.length - (j + 1))
      case measure => have := HG.out; omega
      case rel => exact ⟨j + 1, acc ++ [(j : Int)], by go_num, by omega, rfl, ⟨by simpa using HN.out⟩, HR5, HW5⟩
     ·rw [if_neg hb] at HH
      have hb' : rdOf false r.1 (j : Int) = false := by simpa using hb
      rw [hb'] at hx
      have HN := Aside0.mk HH
      clear HH hb hb'
      go_wp2
      go_roundg (l1.length - (j + 1))
      case measure => have := HG.out; omega
      case rel => exact ⟨j + 1, acc, by go_num, by omega, rfl, ⟨by simpa using HN.out⟩, HR9, HW⟩
    ·have HH := HA.out
     rw [show l1.length - j = 0 from by omega] at HH
     simp only [mask_Set.l] at HH
     obtain rfl := Option.some.inj HH
     clear HA HH hgk
     go_wp2
     go_ret3
     exact ⟨_, rfl, Kd.R_lower HR9.out HB4.out.size, below_then HB4.out HB4.out.size HW.out⟩
  ·have HH := H2.out
   rw [hr2] at HH
   dsimp only at HH
   simp only [Option.some.injEq, Prod.mk.injEq] at HH
   obtain ⟨rfl, rfl, rfl⟩ := HH
   have y0 : w4.cell? ⟨g, 0, none⟩ = some (.int .i64 f.1) := (blk_cell hg1 0).trans rfl
   have y1 : w4.cell? ⟨g, 1, none⟩ = some (.int .i64 f.2) := (blk_cell hg1 1).trans rfl
   clear H2 hr2 hB4 hg0 hg1 z0 z1 z2 z3 z4 z5 z6
   go_wp2
   go_quiet (fail)
   go_wp2
   go_ret3
   exact ⟨_, rfl, Kd.R_nil _ _ _ _ _, by first | exact HB4.out | exact pw_below_drewN HB4.out _⟩

end Go.Proofs.Ytmlgidffgojkhaa.Q
