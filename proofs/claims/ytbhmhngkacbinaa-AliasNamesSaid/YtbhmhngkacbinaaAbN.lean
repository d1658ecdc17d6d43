/- append. Conditions: the table of types. -/
import Derived.Test.YtbhmhngkacbinaaAbM
namespace Go.Ab
open Go.RowKit
set_option autoImplicit false
set_option linter.unusedSimpArgs false

theorem Lies.append {α : Type} {cells : α → List α} {fits : EK → α → Prop} {R : α → Value → Prop} {c : Nat → Option Value} {k : EK} {xs ys : List α} {o : Nat} (h : Lies cells fits R c k xs o) (g : Lies cells fits R c k ys (o + xs.length * k.sz)) : Lies cells fits R c k (xs ++ ys) o where
  fit i x hx := by
    rcases Nat.lt_or_ge i xs.length with hi | hi
    · rw [List.getElem?_append_left hi] at hx; exact h.fit i x hx
    · rw [List.getElem?_append_right hi] at hx; exact g.fit _ x hx
  rep i x j d hx hj := by
    rcases Nat.lt_or_ge i xs.length with hi | hi
    · rw [List.getElem?_append_left hi] at hx; exact h.rep i x j d hx hj
    · rw [List.getElem?_append_right hi] at hx
      obtain ⟨u, h1, h2⟩ := g.rep _ x j d hx hj
      refine ⟨u, ?_, h2⟩
      rw [← h1]
      congr 1
      have : xs.length * k.sz + (i - xs.length) * k.sz = i * k.sz := by rw [← Nat.add_mul]; congr 1; omega
      omega
theorem Lies.shift {α : Type} {cells : α → List α} {fits : EK → α → Prop} {R R' : α → Value → Prop} {c c' : Nat → Option Value} {k : EK} {xs : List α} {o o' : Nat} (h : Lies cells fits R c k xs o) (hlen : ∀ x, fits k x → (cells x).length = k.sz)
    (hc : ∀ q, q < xs.length * k.sz → c' (o' + q) = c (o + q)) (hR : ∀ (i : Nat) (x : α) (j : Nat) (y : α) (u : Value), xs[i]? = some x → (cells x)[j]? = some y → R y u → R' y u) : Lies cells fits R' c' k xs o' where
  fit := h.fit
  rep i x j d hx hj := by
    obtain ⟨u, h1, h2, h3⟩ := h.rep i x j d hx hj
    refine ⟨u, ?_, h2, hR i x j d u hx hj h3⟩
    have hi : i < xs.length := (List.getElem?_eq_some_iff.1 hx).1
    have hj' : j < k.sz := by rw [← hlen x (h.fit i x hx)]; exact (List.getElem?_eq_some_iff.1 hj).1
    have : (i + 1) * k.sz ≤ xs.length * k.sz := Nat.mul_le_mul_right _ hi
    rw [Nat.add_mul] at this
    rw [show o' + i * k.sz + j = o' + (i * k.sz + j) from by omega, hc _ (by omega), ← h1]
    congr 1
    omega
theorem grow_le (n : Nat) : ∀ (r c : Nat), c < n → Builtin.growBy n r c ≤ n + n / 4 + 192
  | 0, c, h => by simp only [Builtin.growBy]; omega
  | r + 1, c, h => by
    simp only [Builtin.growBy]
    rw [if_neg (by omega)]
    rcases Nat.lt_or_ge (c + (c + 768) / 4) n with h1 | h1
    · exact grow_le n r _ h1
    · have : Builtin.growBy n r (c + (c + 768) / 4) = c + (c + 768) / 4 := by
        cases r with
        | zero => rfl
        | succ r => simp only [Builtin.growBy]; rw [if_pos h1]
      rw [this]
      omega
theorem nextcap_le {n c : Nat} (h : c < n) : Builtin.nextslicecap n c ≤ 3 * n := by
  unfold Builtin.nextslicecap
  split
  · omega
  · split
    · omega
    · have := grow_le n 4 c h
      omega
theorem notInt_or {ti2 : TI} (h : notInt (some ti2) = true) : (∃ x, ti2.d = .slice x) ∨ ti2.d = .string := by
  unfold notInt at h
  split at h
  · rename_i e; cases e
    split at h
    · rename_i x hx; exact .inl ⟨x, hx⟩
    · rename_i hx; exact .inr hx
    · cases h
  · cases h
section
variable {P : Program} {E : Env} (hT : TyOk P E.ty) {t t2 e : Nat} {ti ti2 te : TI} (ht : E.ty t = some ti) (ht2 : E.ty t2 = some ti2) (hd : ti.d = .slice e) (hte : E.ty e = some te) (hn2 : notInt (some ti2) = true) {w : World}
include hT ht ht2 hd hte hn2
theorem append_run {base : Option Addr} {sl cap n : Nat} {ux : Value} {new : Array Value} (ty : TypeId) (hlen : (Builtin.lenOf ux).run P w = .ok n w) (hc : (Builtin.firstCells te.sz n ux).run P w = .ok new w) (hneed : sl + n ≤ cap) :
    (Builtin.append_ #[t, t2] ty #[.slice base sl cap, ux]).run P w = ((match base with | some a => storeCells (a.add (sl * te.sz)) new.toList | none => pure () : Sem Unit).run P w).andThen fun _ w' => .ok (.slice base (sl + n) cap) w' := by
  have hz := notInt_or hn2
  unfold Builtin.append_
  rw [show (#[t, t2][0]? : Option TypeId) = some t from rfl, show (#[t, t2][1]? : Option TypeId) = some t2 from rfl, show (#[Value.slice base sl cap, ux][0]? : Option Value) = some (.slice base sl cap) from rfl, show (#[Value.slice base sl cap, ux][1]? : Option Value) = some ux from rfl]
  rcases hz with ⟨x, hz⟩ | hz <;> simp only [Sem.run_bind, run_und hT ht, hd, Result.andThen_ok, run_sz hT hte, run_und hT ht2, Sem.run_pure, hz, Bool.false_eq_true, if_false, hlen, hneed, if_true, hc, Bool.not_false] <;> cases base <;> simp [hc]
theorem append_grows {base : Option Addr} {sl cap n : Nat} {ux : Value} {old new : Array Value} {z : Value} (ty : TypeId) (hlen : (Builtin.lenOf ux).run P w = .ok n w)
    (ho : ∀ w', w'.heap = w.heap → (Builtin.firstCells te.sz sl (.slice base sl cap)).run P w' = .ok old w') (hc : ∀ w', w'.heap = w.heap → (Builtin.firstCells te.sz n ux).run P w' = .ok new w') (hz : ∀ w', (zeroValue e).run P w' = .ok z w') (hneed : cap < sl + n) (hb : (sl + n) * (te.bytes + 1) ≤ 70368744177664) :
    ∃ (m : Nat) (w1 : World), sl + n ≤ m ∧ w1.heap = w.heap ∧ w1.os = w.os ∧ w1.tape = w.tape ∧ w1.output = w.output ∧
      (Builtin.append_ #[t, t2] ty #[.slice base sl cap, ux]).run P w = .ok (.slice (some ⟨w.heap.size, 0, none⟩) (sl + n) m) (w1.alloc (.cells (old ++ new ++ Builtin.zeroCells z.cells (m - (sl + n))) e)) := by
  have hzz := notInt_or hn2
  obtain ⟨i, hi, hi2⟩ : ∃ i : TypeInfo, (∀ w', (typeInfo e).run P w' = .ok i w') ∧ i.bytes = te.bytes := by
    obtain ⟨_, i, h1, _, h3, _⟩ := hT.ok e te hte
    exact ⟨i, fun w' => by simp [typeInfo, h1], h3⟩
  have hb1 : sl + n ≤ 70368744177664 := Nat.le_trans (Nat.le_mul_of_pos_right _ (by omega)) hb
  have hb2 : (sl + n) * te.bytes ≤ 70368744177664 := Nat.le_trans (Nat.mul_le_mul_left _ (by omega)) hb
  have hb3 : Builtin.nextslicecap (sl + n) cap * te.bytes ≤ 281474976710656 := by
    have h1 := nextcap_le hneed
    have h2 : Builtin.nextslicecap (sl + n) cap * te.bytes ≤ 3 * (sl + n) * te.bytes := Nat.mul_le_mul_right _ h1
    rw [Nat.mul_assoc] at h2
    omega
  obtain ⟨m, hm⟩ : ∃ m, m = (Question.appendCap (sl + n) cap e).cut (w.tape w.drawn (Question.appendCap (sl + n) cap e)) := ⟨_, rfl⟩
  have hmle : sl + n ≤ m := by rw [hm]; simp only [Question.cut]; omega
  obtain ⟨w1, hw1, hch⟩ : ∃ w1 : World, (w1.heap = w.heap ∧ w1.os = w.os ∧ w1.tape = w.tape ∧ w1.output = w.output) ∧ (choose (.appendCap (sl + n) cap e)).run P w = .ok m w1 :=
    ⟨{ w with drawn := w.drawn + 1 }, ⟨rfl, rfl, rfl, rfl⟩, by rw [run_choose, if_neg (by simp [Question.forced]), hm]⟩
  refine ⟨m, w1, hmle, hw1.1, hw1.2.1, hw1.2.2.1, hw1.2.2.2, ?_⟩
  unfold Builtin.append_
  rw [show (#[t, t2][0]? : Option TypeId) = some t from rfl, show (#[t, t2][1]? : Option TypeId) = some t2 from rfl, show (#[Value.slice base sl cap, ux][0]? : Option Value) = some (.slice base sl cap) from rfl, show (#[Value.slice base sl cap, ux][1]? : Option Value) = some ux from rfl]
  have hmax : ¬ (((sl + n : Nat) : Int) > IntKind.i64.max) := by
    have : IntKind.i64.max = 9223372036854775807 := by decide
    omega
  have hbb : ¬ (Builtin.nextslicecap (sl + n) cap * i.bytes > 2 ^ 48) := by rw [hi2]; omega
  have hnn : ¬ (sl + n ≤ cap) := by omega
  have hnew := hc w1 hw1.1
  have hold := ho w1 hw1.1
  have hzv := hz w1
  have hsz : w1.heap.size = w.heap.size := by rw [hw1.1]
  rcases hzz with ⟨x, hzz⟩ | hzz <;> simp only [Sem.run_bind, run_und hT ht, hd, Result.andThen_ok, run_sz hT hte, run_und hT ht2, Sem.run_pure, hzz, Bool.false_eq_true, if_false, hlen, hnn, Bool.not_false, hi, hmax, false_and, hbb, hch, run_askRoom, hold, hnew, hzv, if_true, newRow, run_newObj, hsz] <;> rfl
end
/-- What the destination of an append is: a row with room behind it, or nothing. -/
inductive Base (w : World) (O : Nat → Prop) (ι : List Loc) (te : TI) (l : Loc) (c : Cont) : Value → Prop
  | row (b o0 cap : Nat) (o : Nat) (hp : l.pl = some (b, o)) (hroom : Room w b l.n) (h1 : c.len ≤ cap) (h2 : o0 + cap * te.sz ≤ l.n) (hl : VLies w O ι b te.ek c.vs o0) : Base w O ι te l c (.slice (some ⟨b, o0, none⟩) c.len cap)
  | none (a : Option Addr) (h : c.len = 0) : Base w O ι te l c (.slice a 0 0)
/-- The block that an append leaves, laid. -/
theorem joined_br {w w' : World} {O O' : Nat → Prop} (hs : Same w O w' O') {ι ι' : List Loc} {id : Nat} (hi : ∀ j, j ≠ id → ι'[j]? = ι[j]?) {te : TI} {a c : Cont} {l' : Loc} (h1 : l'.sz = te.sz) (h2 : l'.len = a.len + c.len)
    (h3 : match l'.pl with | none => a.len + c.len = 0 | some (b, o) => Room w' b l'.n ∧ o + (a.len + c.len) * te.sz ≤ l'.n ∧ Lies V.cells V.fits (VR w O ι) (fun off => w'.cell? ⟨b, off, none⟩) te.ek (a.vs ++ c.vs) o) : BR w' O' ι' l' ((joinC te.ek a c).inv id) := by
  have hlen : (a.vs ++ c.vs).length = a.len + c.len := by rw [List.length_append, Cont.vs_len, Cont.vs_len]
  have hsz : te.ek.sz = te.sz := rfl
  rcases joinC_or te.ek a c with e | ⟨xs, e1, e2⟩
  · rw [e]
    refine ⟨h1, by rw [invL_len, hlen]; exact h2, ?_⟩
    cases hp : l'.pl with
    | none =>
      simp only [hp] at h3 ⊢
      exact List.eq_nil_of_length_eq_zero (by rw [invL_len, hlen]; exact h3)
    | some p =>
      obtain ⟨b, o⟩ := p
      simp only [hp] at h3 ⊢
      refine ⟨h3.1, by rw [invL_len, hlen, hsz]; exact h3.2.1, Lies.keep (h3.2.2.invV id) (fun _ => rfl) ?_⟩
      intro i x j y u hx hy hR
      exact hR.keep hs (fun r hr => hi r (refs_invL id _ r (mem_refsL hx (cells_refs hy r hr))).1)
  · rw [e2]
    refine ⟨h1, by rw [← List.length_map (f := V.p), ← e1, hlen]; exact h2, ?_⟩
    cases hp : l'.pl with
    | none =>
      simp only [hp] at h3 ⊢
      exact List.eq_nil_of_length_eq_zero (by rw [← List.length_map (f := V.p), ← e1, hlen]; exact h3)
    | some p =>
      obtain ⟨b, o⟩ := p
      simp only [hp] at h3 ⊢
      obtain ⟨g1, g2, g3⟩ := h3
      rw [e1] at g3
      refine ⟨g1, by rw [← List.length_map (f := V.p), ← e1, hlen, hsz]; exact g2, Lies.keep g3.pure (fun _ => rfl) (fun _ _ _ _ _ _ _ hR => hR.keep hs)⟩
section
variable {P : Program} {E : Env} (hT : TyOk P E.ty) {t t2 e : Nat} {ti ti2 te : TI} (ht : E.ty t = some ti) (ht2 : E.ty t2 = some ti2) (hd : ti.d = .slice e) (hte : E.ty e = some te) (hn2 : notInt (some ti2) = true)
  {w : World} {X : Nat → Prop} {ι : List Loc} {H : Heap} (hH : HR w X ι H)
include hT ht ht2 hd hte hn2 hH
/-- The three ways of an append, told of a place that is found at the end. -/
theorem append_ways {l : Loc} {x : V} {a c : Cont} {us ux : Value} (hs : Base w (OX X ι H) ι te l a us) (hx : VR w (OX X ι H) ι x ux) (hc : contOf H te x = some c)
    (hsf : ∃ old : Array Value, (∀ w' : World, w'.heap = w.heap → (Builtin.firstCells te.sz a.len us).run P w' = .ok old w') ∧ old.size = a.len * te.sz ∧ VReps w (OX X ι H) ι old te.ek a.vs) (hb : (a.len + c.len) * (te.bytes + 1) ≤ 70368744177664) (hzk : te.z.kd te.ek = true) (ty : TypeId) :
    ∃ (w' : World) (q : Value) (l' : Loc), (Builtin.append_ #[t, t2] ty #[us, ux]).run P w = .ok q w' ∧ l'.sz = te.sz ∧ l'.len = a.len + c.len ∧ w'.os = w.os ∧ w'.tape = w.tape ∧ w'.output = w.output ∧ w.heap.size ≤ w'.heap.size ∧
      (∀ c', c' < w.heap.size → ¬ (∃ o, l.pl = some (c', o)) → w'.heap[c']? = w.heap[c']?) ∧
      (match l'.pl with
        | none => a.len + c.len = 0 ∧ w' = w ∧ (∃ A, q = .slice A 0 0)
        | some (b, o) => (w'.heap.size = w.heap.size ∧ (∃ o', l.pl = some (b, o')) ∨ w.heap.size ≤ b ∧ ∀ c', c' < w.heap.size → w'.heap[c']? = w.heap[c']?) ∧ Room w' b l'.n ∧ o + (a.len + c.len) * te.sz ≤ l'.n ∧ Lies V.cells V.fits (VR w (OX X ι H) ι) (fun off => w'.cell? ⟨b, off, none⟩) te.ek (a.vs ++ c.vs) o ∧
          ∃ cap, q = .slice (some ⟨b, o, none⟩) (a.len + c.len) cap ∧ a.len + c.len ≤ cap ∧ o + cap * te.sz ≤ l'.n) := by
  obtain ⟨c1, new, c2, c3, c4⟩ := cont_read (P := P) hH hx hc
  obtain ⟨old, o1, o2, o3⟩ := hsf
  have hsz : te.ek.sz = te.sz := rfl
  have hnl : ∀ x : V, V.fits te.ek x → x.cells.length = te.ek.sz := fun x hx => hx.len
  have ha := Cont.vs_len a
  have hcl := Cont.vs_len c
  have grow : ∀ (base : Option Addr) (cap : Nat), us = .slice base a.len cap → cap < a.len + c.len →
      ∃ (w' : World) (q : Value) (l' : Loc), (Builtin.append_ #[t, t2] ty #[us, ux]).run P w = .ok q w' ∧ l'.sz = te.sz ∧ l'.len = a.len + c.len ∧ w'.os = w.os ∧ w'.tape = w.tape ∧ w'.output = w.output ∧ w.heap.size ≤ w'.heap.size ∧
      (∀ c', c' < w.heap.size → ¬ (∃ o, l.pl = some (c', o)) → w'.heap[c']? = w.heap[c']?) ∧
      (match l'.pl with
        | none => a.len + c.len = 0 ∧ w' = w ∧ (∃ A, q = .slice A 0 0)
        | some (b, o) => (w'.heap.size = w.heap.size ∧ (∃ o', l.pl = some (b, o')) ∨ w.heap.size ≤ b ∧ ∀ c', c' < w.heap.size → w'.heap[c']? = w.heap[c']?) ∧ Room w' b l'.n ∧ o + (a.len + c.len) * te.sz ≤ l'.n ∧ Lies V.cells V.fits (VR w (OX X ι H) ι) (fun off => w'.cell? ⟨b, off, none⟩) te.ek (a.vs ++ c.vs) o ∧
          ∃ cap, q = .slice (some ⟨b, o, none⟩) (a.len + c.len) cap ∧ a.len + c.len ≤ cap ∧ o + cap * te.sz ≤ l'.n) := by
    rintro base cap rfl hlt
    obtain ⟨_, iz, hz1, _, _, z, hz2, hz3⟩ := hT.ok e te hte
    have hzv : ∀ w' : World, (zeroValue e).run P w' = .ok z w' := fun w' => by simp [zeroValue, typeInfo, hz1, hz2]
    have hzs := (kd_pv (hz3 w (OX X ι H)) hzk).2.1
    obtain ⟨m, w1, g1, g2, g3, g4, g5, g6⟩ := append_grows hT ht ht2 hd hte hn2 (w := w) ty c1 o1 c2 hzv hlt hb
    obtain ⟨arr, harr⟩ : ∃ arr : Array Value, arr = old ++ new ++ Builtin.zeroCells z.cells (m - (a.len + c.len)) := ⟨_, rfl⟩
    have hsize : arr.size = m * te.sz := by
      rw [harr]
      simp only [Array.size_append, o2, c3, Builtin.zeroCells, Array.size_map, Array.size_range, hzs, hsz]
      rw [← Nat.add_mul, ← Nat.add_mul]
      congr 1
      omega
    rw [← harr] at g6
    have hsz1 : w1.heap.size = w.heap.size := by rw [g2]
    have hkeep : ∀ c', c' < w.heap.size → (w1.alloc (.cells arr e)).heap[c']? = w.heap[c']? := fun c' hc' => by rw [alloc_heap, Array.getElem?_push, if_neg (by omega), g2]
    have hmul : (a.len + c.len) * te.sz ≤ m * te.sz := Nat.mul_le_mul_right _ g1
    refine ⟨_, _, ⟨some (w.heap.size, 0), te.sz, a.len + c.len, arr.size⟩, g6, rfl, rfl, g3, g4, g5, by rw [alloc_heap, Array.size_push]; omega, fun c' hc' _ => hkeep c' hc', ?_⟩
    refine ⟨.inr ⟨Nat.le_refl _, hkeep⟩, ⟨⟨arr, e, (0, 0), by rw [alloc_heap, ← hsz1, Array.getElem?_push_size], rfl⟩, fun off _ => by
        simp only [World.frozen?, alloc_heap, ← hsz1, Array.getElem?_push_size]
        simp⟩, by simp only; omega, ?_, m, rfl, g1, by simp only; omega⟩
    have hcell : ∀ off, (w1.alloc (.cells arr e)).cell? ⟨w.heap.size, off, none⟩ = arr[off]? := fun off => by rw [← hsz1]; exact cell_new w1 arr e (0, 0) off
    refine Lies.append (o3.shift hnl (fun q hq => ?_) (fun _ _ _ _ _ _ _ h => h)) (c4.shift hnl (fun q hq => ?_) (fun _ _ _ _ _ _ _ h => h))
    · rw [ha, hsz] at hq
      simp only [Nat.zero_add]
      rw [hcell, harr, Array.append_assoc, Array.getElem?_append_left (by omega)]
    · rw [hcl, hsz] at hq
      rw [ha, hsz]
      simp only [Nat.zero_add]
      rw [hcell, harr, Array.getElem?_append_left (by simp; omega), Array.getElem?_append_right (by omega)]
      congr 1
      omega
  cases hs with
  | row b o0 cap o hp hroom h1 h2 hl =>
    rcases Nat.lt_or_ge cap (a.len + c.len) with hlt | hge
    · exact grow _ cap rfl hlt
    · have hrun := append_run hT ht ht2 hd hte hn2 (w := w) (base := some ⟨b, o0, none⟩) (sl := a.len) (cap := cap) ty c1 (c2 w rfl) hge
      have hnn : new.toList.length = c.len * te.sz := by simp [c3]
      have hmul : (a.len + c.len) * te.sz ≤ cap * te.sz := Nat.mul_le_mul_right _ hge
      rw [Nat.add_mul] at hmul
      have hcells : ∀ v ∈ new.toList, isCell v := by
        intro v hv
        obtain ⟨q, hq, rfl⟩ := List.getElem_of_mem hv
        have hq' : q < c.len * te.sz := by rw [← hnn]; exact hq
        have hpos : 0 < te.sz := by
          rcases Nat.eq_zero_or_pos te.sz with h0 | h0
          · rw [h0] at hq'; omega
          · exact h0
        have hi : q / te.sz < c.vs.length := by rw [hcl]; exact Nat.div_lt_of_lt_mul (by rw [Nat.mul_comm]; exact hq')
        have hxi := List.getElem?_eq_getElem hi
        have hj : q % te.sz < (c.vs[q / te.sz]).cells.length := by rw [hnl _ (c4.fit _ _ hxi)]; exact Nat.mod_lt _ hpos
        obtain ⟨u, h3, h4, _⟩ := c4.rep _ _ _ _ hxi (List.getElem?_eq_getElem hj)
        have he : 0 + q / te.sz * te.ek.sz + q % te.sz = q := by
          have := Nat.div_add_mod q te.sz
          rw [Nat.mul_comm] at this
          rw [hsz]; omega
        simp only [he] at h3
        have : new.toList[q]? = some u := by simpa using h3
        rw [List.getElem?_eq_getElem hq] at this
        cases this
        exact h4
      have hst := run_storeCells_room (P := P) hroom (off := o0 + a.len * te.sz) (us := new.toList) (by omega) hcells
      obtain ⟨e1, e2, e3, e4, e5, _⟩ := setCells_heap b new.toList (o0 + a.len * te.sz) w
      refine ⟨w.setCells b (o0 + a.len * te.sz) new.toList, .slice (some ⟨b, o0, none⟩) (a.len + c.len) cap, ⟨some (b, o0), te.sz, a.len + c.len, l.n⟩, ?_, rfl, rfl, e3, e2, e4, by omega, fun c' _ hc' => e5 c' (fun h => hc' ⟨o, by rw [h]; exact hp⟩), ?_⟩
      · rw [hrun]
        simp only [Addr.add_mid, hst, Result.andThen_ok]
      · refine ⟨.inl ⟨e1, o, hp⟩, hroom.setCells _ _, by simp only; rw [Nat.add_mul]; omega, ?_, cap, rfl, hge, h2⟩
        refine Lies.append (hl.shift hnl (fun q hq => ?_) (fun _ _ _ _ _ _ _ h => h)) (c4.shift hnl (fun q hq => ?_) (fun _ _ _ _ _ _ _ h => h))
        · rw [ha, hsz] at hq
          exact cell_set_out (by omega)
        · rw [hcl, hsz] at hq
          rw [ha, hsz]
          have hlt : q < new.size := by omega
          have hu : new.toList[q]? = some new[q] := by simp [hlt]
          rw [cell_set_in hroom (by omega) hu]
          simp [hlt]
  | none A h0 =>
    rcases Nat.eq_zero_or_pos c.len with hz | hpos
    · have hrun := append_run hT ht ht2 hd hte hn2 (w := w) (base := A) (sl := 0) (cap := 0) ty c1 (c2 w rfl) (by omega)
      have hn0 : new = #[] := Array.eq_empty_of_size_eq_zero (by rw [c3, hz]; simp)
      refine ⟨w, .slice A 0 0, ⟨none, te.sz, a.len + c.len, 0⟩, ?_, rfl, rfl, rfl, rfl, rfl, Nat.le_refl _, fun _ _ _ => rfl, by omega, rfl, A, rfl⟩
      rw [hrun, hn0, hz]
      cases A <;> rfl
    · exact grow A 0 (by rw [h0]) (by omega)
theorem append_move {id : Nat} {l : Loc} {B : Blk} (hl : ι[id]? = some l) (hB : H[id]? = some B) (hlv : B.live = true) {x : V} {a c : Cont} {us ux : Value} (hs : Base w (OX X ι H) ι te l a us) (hx : VR w (OX X ι H) ι x ux) (hc : contOf H te x = some c)
    (hsf : ∃ old : Array Value, (∀ w' : World, w'.heap = w.heap → (Builtin.firstCells te.sz a.len us).run P w' = .ok old w') ∧ old.size = a.len * te.sz ∧ VReps w (OX X ι H) ι old te.ek a.vs) (hb : (a.len + c.len) * (te.bytes + 1) ≤ 70368744177664) (hzk : te.z.kd te.ek = true) (ty : TypeId) :
    ∃ w' ι' q, (Builtin.append_ #[t, t2] ty #[us, ux]).run P w = .ok q w' ∧ HR w' X ι' ((invH id H).set id ((joinC te.ek a c).inv id)) ∧ VR w' (OX X ι' ((invH id H).set id ((joinC te.ek a c).inv id))) ι' (.ls id) q ∧ Fr w ι H [id] w' ι' ((invH id H).set id ((joinC te.ek a c).inv id)) := by
  obtain ⟨w', q, l', r1, r2, r3, r4, r5, r6, r7, r8, r9⟩ := append_ways hT ht ht2 hd hte hn2 hH hs hx hc hsf hb hzk ty
  have hid : id < ι.length := (List.getElem?_eq_some_iff.1 hl).1
  have hlive : ((joinC te.ek a c).inv id).live = true := by
    rw [inv_live]
    rcases joinC_or te.ek a c with e | ⟨xs, _, e⟩ <;> rw [e] <;> rfl
  obtain ⟨h1, h2⟩ := hH.move (w' := w') (l' := l') hl hB hlive r7 (fun c' hc' hn => r8 c' hc' (fun ⟨o, ho⟩ => hn ⟨hlv, o, ho⟩)) r4 r5 r6 (by
    intro b o hp
    simp only [hp] at r9
    rcases r9.1 with ⟨_, o', ho'⟩ | ⟨hge, _⟩
    · exact .inl ⟨hlv, o', ho'⟩
    · exact .inr hge) (by
    intro hs'
    refine joined_br (ι := ι) (id := id) (hs'.withX X) (fun j hj => by rw [List.getElem?_set, if_neg (fun e => hj e.symm)]) r2 r3 ?_
    cases hp : l'.pl with
    | none => simp only [hp] at r9 ⊢; exact r9.1
    | some p =>
      obtain ⟨b, o⟩ := p
      simp only [hp] at r9 ⊢
      exact ⟨r9.2.1, r9.2.2.1, r9.2.2.2.1⟩)
  refine ⟨w', _, q, r1, h1, ?_, h2⟩
  have hget : (ι.set id l')[id]? = some l' := by rw [List.getElem?_set, if_pos rfl, if_pos hid]
  cases hp : l'.pl with
  | none =>
    simp only [hp] at r9
    obtain ⟨q1, _, A, rfl⟩ := r9
    exact .lsNil id l' A hget hp (by omega)
  | some p =>
    obtain ⟨b, o⟩ := p
    simp only [hp] at r9
    obtain ⟨_, _, _, _, cap, rfl, q1, q2⟩ := r9
    rw [← r3]
    exact .ls id l' b o cap hget hp (by omega) (by rw [r2]; exact q2)
end
section
variable {P : Program} {E : Env} (hT : TyOk P E.ty) {t t2 e : Nat} {ti ti2 te : TI} (ht : E.ty t = some ti) (ht2 : E.ty t2 = some ti2) (hd : ti.d = .slice e) (hte : E.ty e = some te) (hn2 : notInt (some ti2) = true)
  {w : World} {X : Nat → Prop} {ι : List Loc} {H : Heap} (hH : HR w X ι H)
include hT ht ht2 hd hte hn2 hH
theorem aappendTo_sound {s x r : V} {us ux : Value} {H' : Heap} {lg : Lg} (hs : VR w (OX X ι H) ι s us) (hx : VR w (OX X ι H) ι x ux) (h : aappendTo H te s x = some (r, H', lg)) (ty : TypeId) :
    ∃ w' ι' q, (Builtin.append_ #[t, t2] ty #[us, ux]).run P w = .ok q w' ∧ HR w' X ι' H' ∧ VR w' (OX X ι' H') ι' r q ∧ Fr w ι H lg.mv w' ι' H' ∧ ∃ id, s.refs = [id] ∧ lg.mv = [id] := by
  unfold aappendTo at h
  split at h
  · rename_i a c ha hc
    split at h
    · rename_i hb
      obtain ⟨hb, hzk⟩ := hb
      obtain ⟨o0, old, o1, o2, o3⟩ := cont_read (P := P) hH hs ha
      split at h
      · rename_i id
        split at h
        · cases h
        · rename_i hnf
          simp only [Option.some.injEq, Prod.mk.injEq] at h
          obtain ⟨rfl, rfl, rfl⟩ := h
          have live : ∀ l, ι[id]? = some l → ∃ B, H[id]? = some B ∧ B.live = true ∧ (∀ b o cap, l.pl = some (b, o) → l.len ≤ cap → o + cap * l.sz ≤ l.n → Base w (OX X ι H) ι te l a (.slice (some ⟨b, o, none⟩) l.len cap)) ∧ (l.len = 0 → a.len = 0) := by
            intro l hl
            unfold contOf at ha
            cases hB : H[id]? with
            | none => simp [hB] at ha
            | some B =>
              have hbr := hH.blk id l B hl hB
              cases B with
              | pu k xs =>
                simp only [hB] at ha
                split at ha
                · rename_i hk
                  subst hk
                  cases ha
                  obtain ⟨q1, q2, q3⟩ := hbr
                  refine ⟨_, rfl, rfl, fun b o cap hp h1 h2 => ?_, fun h0 => q2.symm.trans h0⟩
                  simp only [hp] at q3
                  have e : l.len = (Cont.pu xs).len := q2
                  rw [e] at h1 ⊢
                  exact Base.row b o cap o hp q3.1 h1 (by rw [q1] at h2; exact h2) (Lies.lift q3.2.2)
                · cases ha
              | mi k xs =>
                simp only [hB] at ha
                split at ha
                · rename_i hk
                  subst hk
                  cases ha
                  obtain ⟨q1, q2, q3⟩ := hbr
                  refine ⟨_, rfl, rfl, fun b o cap hp h1 h2 => ?_, fun h0 => q2.symm.trans h0⟩
                  simp only [hp] at q3
                  have e : l.len = (Cont.mi xs).len := q2
                  rw [e] at h1 ⊢
                  exact Base.row b o cap o hp q3.1 h1 (by rw [q1] at h2; exact h2) q3.2.2
                · cases ha
              | fz k xs => exact absurd hB (hnf k xs)
              | _ => simp [hB] at ha
          cases hs with
          | ls _ l b o cap hl hp g1 g2 =>
            obtain ⟨B, hB, hlv, hbase, _⟩ := live l hl
            obtain ⟨w', ι', q, r1, r2, r3, r4⟩ := append_move hT ht ht2 hd hte hn2 hH hl hB hlv (hbase b o cap hp g1 g2) hx hc ⟨old, o1, o2, o3⟩ hb hzk ty
            exact ⟨w', ι', q, r1, r2, r3, r4, id, rfl, rfl⟩
          | lsNil _ l A hl hp g1 =>
            obtain ⟨B, hB, hlv, _, hz⟩ := live l hl
            obtain ⟨w', ι', q, r1, r2, r3, r4⟩ := append_move hT ht ht2 hd hte hn2 hH hl hB hlv (Base.none A (hz g1)) hx hc ⟨old, o1, o2, o3⟩ hb hzk ty
            exact ⟨w', ι', q, r1, r2, r3, r4, id, rfl, rfl⟩
      · rename_i id q0 m0
        split at h
        · cases h
        · rename_i hnf
          simp only [Option.some.injEq, Prod.mk.injEq] at h
          obtain ⟨rfl, rfl, rfl⟩ := h
          have live : ∀ l, ι[id]? = some l → ∃ B, H[id]? = some B ∧ B.live = true ∧ a.len = m0 ∧ (∀ b o cap, l.pl = some (b, o) → m0 ≤ cap → o + (q0 + cap) * l.sz ≤ l.n → Base w (OX X ι H) ι te l a (.slice (some ⟨b, o + q0 * l.sz, none⟩) m0 cap)) := by
            intro l hl
            unfold contOf at ha
            cases hB : H[id]? with
            | none => simp [hB] at ha
            | some B =>
              have hbr := hH.blk id l B hl hB
              cases B with
              | pu k xs =>
                simp only [hB] at ha
                split at ha
                · rename_i hk
                  obtain ⟨rfl, hqm⟩ := hk
                  cases ha
                  obtain ⟨q1, q2, q3⟩ := hbr
                  have e : (Cont.pu ((xs.drop q0).take m0)).len = m0 := by simp [Cont.len]; omega
                  refine ⟨_, rfl, rfl, e, fun b o cap hp h1 h2 => ?_⟩
                  simp only [hp] at q3
                  have e1 : l.sz = te.sz := q1
                  have := Base.row (ι := ι) (te := te) (c := .pu ((xs.drop q0).take m0)) b (o + q0 * te.sz) cap o hp q3.1 (by omega) (by rw [e1, Nat.add_mul] at h2; omega) (Lies.lift (q3.2.2.sub q0 m0))
                  rw [e] at this
                  rw [e1]
                  exact this
                · cases ha
              | mi k xs =>
                simp only [hB] at ha
                split at ha
                · rename_i hk
                  obtain ⟨rfl, hqm⟩ := hk
                  cases ha
                  obtain ⟨q1, q2, q3⟩ := hbr
                  have e : (Cont.mi ((xs.drop q0).take m0)).len = m0 := by simp [Cont.len]; omega
                  refine ⟨_, rfl, rfl, e, fun b o cap hp h1 h2 => ?_⟩
                  simp only [hp] at q3
                  have e1 : l.sz = te.sz := q1
                  have := Base.row (ι := ι) (te := te) (c := .mi ((xs.drop q0).take m0)) b (o + q0 * te.sz) cap o hp q3.1 (by omega) (by rw [e1, Nat.add_mul] at h2; omega) (q3.2.2.sub q0 m0)
                  rw [e] at this
                  rw [e1]
                  exact this
                · cases ha
              | fz k xs => exact absurd hB (hnf k xs)
              | _ => simp [hB] at ha
          cases hs with
          | lsub _ _ _ l b o cap hl hp g1 g2 =>
            obtain ⟨B, hB, hlv, _, hbase⟩ := live l hl
            obtain ⟨w', ι', q, r1, r2, r3, r4⟩ := append_move hT ht ht2 hd hte hn2 hH hl hB hlv (hbase b o cap hp g1 g2) hx hc ⟨old, o1, o2, o3⟩ hb hzk ty
            exact ⟨w', ι', q, r1, r2, r3, r4, id, rfl, rfl⟩
          | lsubNil _ _ l A hl hg =>
            obtain ⟨B, hB, hlv, hz, _⟩ := live l hl
            obtain ⟨w', ι', q, r1, r2, r3, r4⟩ := append_move hT ht ht2 hd hte hn2 hH hl hB hlv (Base.none A hz) hx hc ⟨old, o1, o2, o3⟩ hb hzk ty
            exact ⟨w', ι', q, r1, r2, r3, r4, id, rfl, rfl⟩
      · cases h
    · cases h
  · cases h
end
section
variable {P : Program} {E : Env} (hT : TyOk P E.ty) {t t2 : Nat} {ti ti2 : TI} (ht : E.ty t = some ti) (ht2 : E.ty t2 = some ti2) (hn2 : notInt (some ti2) = true)
  {w : World} {X : Nat → Prop} {ι : List Loc} {H : Heap} (hH : HR w X ι H)
include hT ht ht2 hn2 hH
theorem aappend_sound {s x r : V} {us ux : Value} {H' : Heap} {lg : Lg} (hs : VR w (OX X ι H) ι s us) (hx : VR w (OX X ι H) ι x ux) (h : aappend E H ti s x = some (r, H', lg)) (ty : TypeId) :
    ∃ w' ι' q, (Builtin.append_ #[t, t2] ty #[us, ux]).run P w = .ok q w' ∧ HR w' X ι' H' ∧ VR w' (OX X ι' H') ι' r q ∧ Fr w ι H lg.mv w' ι' H' := by
  unfold aappend at h
  split at h
  · rename_i e hd
    cases hte : E.ty e with
    | none => simp [hte] at h
    | some te =>
      simp only [hte] at h
      split at h
      · split at h
        · rename_i v H1 lg1 hA
          simp only [Option.some.injEq, Prod.mk.injEq] at h
          obtain ⟨rfl, rfl, rfl⟩ := h
          obtain rfl : us = .slice none 0 0 := by cases hs with | p _ _ hs => cases hs; rfl
          obtain ⟨g1, g2⟩ := hH.ghost te.ek 0
          have hgs : VR w (OX X (ι ++ [⟨none, te.ek.sz, 0, 0⟩]) (H ++ [.pu te.ek []])) (ι ++ [⟨none, te.ek.sz, 0, 0⟩]) (.ls H.length) (.slice none 0 0) := .lsNil _ ⟨none, te.ek.sz, 0, 0⟩ none (by rw [← hH.len]; simp) rfl rfl
          obtain ⟨w', ι', q, r1, r2, r3, r4, id, r5, r6⟩ := aappendTo_sound hT ht ht2 hd hte hn2 g1 hgs (hx.step g2 (by simp)) hA ty
          refine ⟨w', ι', q, r1, r2, r3, g2.trans r4 ?_⟩
          intro j hj
          rcases hj with hj | ⟨hj, hlt⟩
          · simp at hj
          · rw [r6] at hj
            simp [V.refs] at r5
            simp at hj
            have := hH.len
            omega
        · cases h
      · obtain ⟨w', ι', q, r1, r2, r3, r4, _⟩ := aappendTo_sound hT ht ht2 hd hte hn2 hH hs hx h ty
        exact ⟨w', ι', q, r1, r2, r3, r4⟩
  · cases h
end
end Go.Ab
