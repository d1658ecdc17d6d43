/- The interpreter's new blocks against the model's. Conditions: the table of types. -/
import Derived.Test.YtbhmhngkacbinaaAbH
import Derived.Great.FillDense
import Derived.IntWalk
namespace Go.Ab
open Go.RowKit
set_option autoImplicit false
set_option linter.unusedSimpArgs false

abbrev VReps (w : World) (O : Nat → Prop) (ι : List Loc) (us : Array Value) (k : EK) (xs : List V) : Prop := Lies V.cells V.fits (VR w O ι) (fun off => us[off]?) k xs 0
theorem alloc_heap (w : World) (o : Obj) : (w.alloc o).heap = w.heap.push o := rfl
theorem cell_new (w : World) (us : Array Value) (e : TypeId) (fz : Nat × Nat) (off : Nat) : (w.alloc (.cells us e fz)).cell? ⟨w.heap.size, off, none⟩ = us[off]? := by
  simp only [World.cell?, alloc_heap, Array.getElem?_push_size, Option.isSome_none, Bool.false_eq_true, if_false]
theorem allPure_map : ∀ {vs : List V} {xs : List PV}, allPure vs = some xs → vs = xs.map V.p
  | [], xs, h => by simp [allPure] at h; subst h; rfl
  | v :: r, xs, h => by
    cases v with
    | p x =>
      simp only [allPure] at h
      cases hr : allPure r with
      | none => simp [hr] at h
      | some l => simp [hr] at h; subst h; simp [allPure_map hr]
    | _ => simp [allPure] at h
theorem Lies.pure {w : World} {O : Nat → Prop} {ι : List Loc} {cell : Nat → Option Value} {k : EK} {xs : List PV} {o : Nat} (h : Lies V.cells V.fits (VR w O ι) cell k (xs.map V.p) o) : Lies PV.cells PV.fits (PR w O) cell k xs o where
  fit i x hx := by
    have := h.fit i (.p x) (by simp [hx])
    exact ⟨by simpa [V.cells] using this.len, this.ag, this.wf⟩
  rep i x j c hx hc := by
    obtain ⟨u, h1, h2, h3⟩ := h.rep i (.p x) j (.p c) (by simp [hx]) (by simp [V.cells, hc])
    cases h3 with | p _ _ h3 => exact ⟨u, h1, h2, h3⟩
/-- A new block of cells. -/
theorem HR.cells {w : World} {X : Nat → Prop} {ι : List Loc} {H : Heap} (h : HR w X ι H) {us : Array Value} {k : EK} {vs : List V} (hl : VReps w (OX X ι H) ι us k vs) (hn : vs.length * k.sz ≤ us.size) (e : TypeId) (fz : Nat × Nat) (hfz : ∀ off, off < us.size → ¬ (fz.1 ≤ off ∧ off < fz.2)) (B : Blk) (hB : B = .mi k vs ∨ ∃ xs, vs = xs.map V.p ∧ B = .pu k xs) :
    HR (w.alloc (.cells us e fz)) X (ι ++ [⟨some (w.heap.size, 0), k.sz, vs.length, us.size⟩]) (H ++ [B]) ∧ Fr w ι H [] (w.alloc (.cells us e fz)) (ι ++ [⟨some (w.heap.size, 0), k.sz, vs.length, us.size⟩]) (H ++ [B]) := by
  have hlv : B.live = true := by rcases hB with rfl | ⟨xs, _, rfl⟩ <;> rfl
  have hroom : Room (w.alloc (.cells us e fz)) w.heap.size us.size := ⟨⟨us, e, fz, by rw [alloc_heap]; simp, rfl⟩, fun off ho => by
    have := hfz off ho
    simp only [World.frozen?, alloc_heap, Array.getElem?_push_size]
    simp only [Bool.and_eq_false_iff, decide_eq_false_iff_not]
    omega⟩
  have own : ∀ b, Own (ι ++ [⟨some (w.heap.size, 0), k.sz, vs.length, us.size⟩]) (H ++ [B]) b → Own ι H b ∨ w.heap.size ≤ b := by
    rintro b ⟨id, l', B', q, h1, h2, h3, h4⟩
    rcases get_snoc h1 with h1 | ⟨h1, rfl⟩
    · rcases get_snoc h2 with h2 | ⟨h2, rfl⟩
      · exact .inl ⟨id, l', B', q, h1, h2, h3, h4⟩
      · have := (List.getElem?_eq_some_iff.1 h1).1
        have := h.len
        omega
    · simp at h4; exact .inr (by omega)
  have hs : Same w (Own ι H) (w.alloc (.cells us e fz)) (Own (ι ++ [⟨some (w.heap.size, 0), k.sz, vs.length, us.size⟩]) (H ++ [B])) :=
    ⟨fun b hb _ => by rw [alloc_heap, Array.getElem?_push, if_neg (by omega)], by rw [alloc_heap]; simp, own⟩
  have hV : VLies (w.alloc (.cells us e fz)) (OX X (ι ++ [⟨some (w.heap.size, 0), k.sz, vs.length, us.size⟩]) (H ++ [B])) (ι ++ [⟨some (w.heap.size, 0), k.sz, vs.length, us.size⟩]) w.heap.size k vs 0 :=
    Lies.keep hl (fun off => cell_new w us e fz off) (fun _ _ _ _ _ _ _ hR => hR.keep (hs.withX X) (fun id hid => by rw [List.getElem?_append_left (hR.refs_lt id hid)]))
  refine h.push (w' := w.alloc (.cells us e fz)) (.cells us e fz) rfl rfl rfl rfl _ B hlv (fun b o hp => by simp at hp; omega) ?_
  rcases hB with rfl | ⟨xs, rfl, rfl⟩
  · exact ⟨rfl, rfl, hroom, by simpa using hn, hV⟩
  · exact ⟨rfl, by simp, hroom, by simpa using hn, hV.pure⟩
theorem mkBlk_or (k : EK) (vs : List V) : mkBlk k vs = .mi k vs ∨ ∃ xs, vs = xs.map V.p ∧ mkBlk k vs = .pu k xs := by
  unfold mkBlk
  cases h : allPure vs with
  | none => exact .inl rfl
  | some xs => exact .inr ⟨xs, allPure_map h, rfl⟩
theorem VReps.one {w : World} {O : Nat → Prop} {ι : List Loc} {k : EK} {v : V} {u : Value} (h : VR w O ι v u) (hk : v.kd k = true) : VReps w O ι u.cells k [v] where
  fit i x hx := by
    cases i with
    | zero => simp at hx; subst hx; exact (kd_v h hk).1
    | succ i => simp at hx
  rep i x j c hx hc := by
    cases i with
    | zero =>
      simp at hx; subst hx
      obtain ⟨h1, h2, h3⟩ := kd_v h hk
      have hj : j < u.cells.size := by rw [h2, ← h1.len]; exact (List.getElem?_eq_some_iff.1 hc).1
      have hu := Array.getElem?_eq_getElem hj
      refine ⟨u.cells[j], by simp, h3 j c _ hc hu⟩
    | succ i => simp at hx
theorem VReps.zeros {w : World} {O : Nat → Prop} {ι : List Loc} {k : EK} {x : PV} {z : Value} (h : PR w O x z) (hk : x.kd k = true) (m n : Nat) (hmn : m * k.sz ≤ n) (zs : Array Value) (hz : k.sz ≠ 0 → m ≠ 0 → zs = z.cells) : VReps w O ι ((Array.range n).map (zs[· % zs.size]!)) k (List.replicate m (.p x)) where
  fit i y hy := by
    rw [List.getElem?_replicate] at hy
    split at hy
    · cases hy
      have := (kd_pv h hk).1
      exact ⟨by simp [V.cells, this.len], this.ag, this.wf⟩
    · cases hy
  rep i y j c hy hc := by
    rw [List.getElem?_replicate] at hy
    split at hy
    · rename_i hi
      cases hy
      simp only [V.cells, List.getElem?_map, Option.map_eq_some_iff] at hc
      obtain ⟨d, hd, rfl⟩ := hc
      obtain ⟨h1, h2, h3⟩ := kd_pv h hk
      have hj : j < k.sz := by rw [← h1.len]; exact (List.getElem?_eq_some_iff.1 hd).1
      have hlt : i * k.sz + j < n := by
        have : (i + 1) * k.sz ≤ m * k.sz := Nat.mul_le_mul_right _ hi
        rw [Nat.add_mul] at this
        omega
      have hzs := hz (by omega) (by omega)
      have hu := Array.getElem?_eq_getElem (xs := z.cells) (i := j) (by omega)
      refine ⟨z.cells[j]'(by omega), ?_, (h3 j d _ hd hu).1, .p _ _ (h3 j d _ hd hu).2⟩
      simp only [Nat.zero_add, Array.getElem?_map]
      rw [Array.getElem?_eq_getElem (by simpa using hlt)]
      simp only [Option.map_some, Array.getElem_range, hzs, h2]
      rw [show (i * k.sz + j) % k.sz = j from by rw [Nat.mul_add_mod_self_right, Nat.mod_eq_of_lt hj]]
      simp [h2, hj]
    · cases hy

section
variable {P : Program} {ty : Ty} (hT : TyOk P ty) {t : Nat} {ti : TI} (ht : ty t = some ti) {w : World}
include hT ht
theorem aboxed_sound {X : Nat → Prop} {ι : List Loc} {H H' : Heap} {lg : Lg} (hH : HR w X ι H) {v r : V} {u : Value} (hv : VR w (OX X ι H) ι v u) (h : aboxed H ti.ek v = some (r, H', lg)) :
    ∃ w' ι' q, (Instr.box t u).run P w = .ok q w' ∧ HR w' X ι' H' ∧ VR w' (OX X ι' H') ι' r q ∧ Fr w ι H lg.mv w' ι' H' := by
  have _u0 := hT
  have _u1 := ht
  have key : ∀ (B : Blk), v.kd ti.ek = true → (B = .mi ti.ek [v] ∨ ∃ xs, [v] = xs.map V.p ∧ B = .pu ti.ek xs) → r = .lp H.length 0 0 → H' = H ++ [B] → lg = lg0 →
      ∃ w' ι' q, (Instr.box t u).run P w = .ok q w' ∧ HR w' X ι' H' ∧ VR w' (OX X ι' H') ι' r q ∧ Fr w ι H lg.mv w' ι' H' := by
    rintro B hk hB rfl rfl rfl
    obtain ⟨h1, h2⟩ := hH.cells (VReps.one hv hk) (by have := (kd_v hv hk).2.1; simp; omega) t (0, 0) (by simp) B hB
    refine ⟨_, _, .pointer (some ⟨w.heap.size, 0, none⟩), ?_, h1, ?_, h2⟩
    · simp [Instr.box, newVar, newRow]
    · have := VR.lp (w := w.alloc (.cells u.cells t)) (O := OX X (ι ++ [⟨some (w.heap.size, 0), ti.ek.sz, 1, u.cells.size⟩]) (H ++ [B])) (ι := ι ++ [⟨some (w.heap.size, 0), ti.ek.sz, 1, u.cells.size⟩]) H.length 0 0 ⟨some (w.heap.size, 0), ti.ek.sz, 1, u.cells.size⟩ w.heap.size 0 (by rw [← hH.len]; simp) rfl
      simpa using this
  cases v with
  | p x =>
    simp only [aboxed] at h
    split at h
    · rename_i hk
      simp only [Option.some.injEq, Prod.mk.injEq] at h
      exact key _ (by simpa [V.kd] using hk) (.inr ⟨[x], rfl, rfl⟩) h.1.symm h.2.1.symm h.2.2.symm
    · cases h
  | _ =>
    all_goals
      simp only [aboxed] at h
      split at h
      · rename_i hk
        simp only [Option.some.injEq, Prod.mk.injEq] at h
        exact key _ hk (.inl rfl) h.1.symm h.2.1.symm h.2.2.symm
      · cases h
theorem aalloc_sound {X : Nat → Prop} {ι : List Loc} {H H' : Heap} {lg : Lg} (hH : HR w X ι H) {r : V} (h : aboxed H ti.ek (.p ti.z) = some (r, H', lg)) :
    ∃ w' ι' q, (Instr.alloc t true (.tuple #[])).run P w = .ok q w' ∧ HR w' X ι' H' ∧ VR w' (OX X ι' H') ι' r q ∧ Fr w ι H lg.mv w' ι' H' := by
  obtain ⟨z, hz, hR⟩ := run_zero hT ht (w := w) (OX X ι H)
  obtain ⟨w', ι', q, h1, h2, h3, h4⟩ := aboxed_sound hT ht hH (.p _ _ hR) h
  refine ⟨w', ι', q, ?_, h2, h3, h4⟩
  simp only [Instr.alloc, Sem.run_bind, hz, Result.andThen_ok]
  simpa [Instr.box] using h1
end

theorem fill_step {place : Nat → Option (Nat × Nat)} {cells : Array Value} {i off size : Nat} {v : Value} {rest : List (Nat × Value)} (hp : place i = some (off, size)) (hs : v.cells.size = size) (hn : off + size ≤ cells.size) :
    ∃ r, Instr.fill place cells ((i, v) :: rest) = Instr.fill place r rest ∧ r.size = cells.size ∧ ∀ k, r[k]? = if off ≤ k ∧ k < off + size then v.cells[k - off]? else cells[k]? := by
  obtain ⟨h1, h2⟩ := Go.Great.foldl_set off v.cells.toList 0 cells
  refine ⟨_, ?_, h1, ?_⟩
  · simp only [Instr.fill, hp]
    rw [if_neg (by simp [hs]; omega)]
    congr 1
    rw [← Array.foldl_toList]
    simp [Array.toList_zipIdx]
  · intro k
    rw [h2 k]
    simp only [Nat.add_zero, Array.length_toList, Array.getElem?_toList]
    by_cases hk : off ≤ k ∧ k < off + size
    · rw [if_pos hk, if_pos (by omega)]
    · rw [if_neg hk, if_neg (by omega)]
theorem setParts_sound {w : World} {O : Nat → Prop} {ι : List Loc} {k : EK} {n : Nat} : ∀ (ps : List (Nat × V)) (us : List (Nat × Value)) (acc vs : List V) (cells : Array Value), setParts k n acc ps = some vs → acc.length = n → n * k.sz = cells.size → VReps w O ι cells k acc →
    ps.length = us.length → (∀ (j : Nat) (p : Nat × V) (u : Nat × Value), ps[j]? = some p → us[j]? = some u → p.1 = u.1 ∧ VR w O ι p.2 u.2) → ∃ r, Instr.fill (fun i => some (i * k.sz, k.sz)) cells us = some r ∧ r.size = cells.size ∧ vs.length = n ∧ VReps w O ι r k vs
  | [], us, acc, vs, cells, h, hl, hc, hr, hlen, _ => by
    simp [setParts] at h; subst h
    obtain rfl : us = [] := by cases us <;> simp_all
    exact ⟨cells, rfl, rfl, hl, hr⟩
  | (i, v) :: ps, us, acc, vs, cells, h, hl, hc, hr, hlen, hps => by
    simp only [setParts] at h
    split at h
    · rename_i hi
      simp only [Bool.and_eq_true, decide_eq_true_eq] at hi
      cases us with
      | nil => simp at hlen
      | cons q us =>
        obtain ⟨i', u⟩ := q
        obtain ⟨e, hv⟩ := hps 0 (i, v) (i', u) rfl rfl
        simp only at e hv
        subst e
        obtain ⟨g1, g2, g3⟩ := kd_v hv hi.2
        have hle : i * k.sz + k.sz ≤ cells.size := by
          have : (i + 1) * k.sz ≤ n * k.sz := Nat.mul_le_mul_right _ hi.1
          rw [Nat.add_mul] at this
          omega
        obtain ⟨r, r1, r2, r3⟩ := fill_step (rest := us) (place := fun i => some (i * k.sz, k.sz)) (i := i) (v := u) rfl g2 hle
        have hr' : VReps w O ι r k (acc.set i v) := by
          refine hr.set (fun x hx => hx.len) g1 (fun off ho => ?_) ?_ (fun _ _ _ _ _ _ _ hR => hR)
          · simp only [Nat.zero_add] at ho ⊢
            rw [r3, if_neg (by omega)]
          · intro j d hd
            have hj : j < u.cells.size := by rw [g2, ← g1.len]; exact (List.getElem?_eq_some_iff.1 hd).1
            have hu := Array.getElem?_eq_getElem hj
            refine ⟨u.cells[j], ?_, g3 j d _ hd hu⟩
            simp only [Nat.zero_add]
            rw [r3, if_pos (by omega), show i * k.sz + j - i * k.sz = j from by omega, hu]
        obtain ⟨r', q1, q2, q3, q4⟩ := setParts_sound ps us (acc.set i v) vs r h (by simp [hl]) (by omega) hr' (by simpa using hlen) (fun j p u hp hu => hps (j + 1) p u (by simpa using hp) (by simpa using hu))
        exact ⟨r', r1.trans q1, q2.trans r2, q3, q4⟩
    · cases h
theorem VR.ls_new {w : World} {O : Nat → Prop} {ι : List Loc} {id b len cap : Nat} {l : Loc} (h : ι[id]? = some l) (hp : l.pl = some (b, 0)) (hl : l.len = len) (h1 : len ≤ cap) (h2 : cap * l.sz ≤ l.n) : VR w O ι (.ls id) (.slice (some ⟨b, 0, none⟩) len cap) := by
  subst hl
  exact .ls id l b 0 cap h hp h1 (by omega)
section
variable {P : Program} {E : Env} (hT : TyOk P E.ty) {t : Nat} {ti : TI} (ht : E.ty t = some ti) {w : World}
include hT ht
theorem abuildSlice_sound {X : Nat → Prop} {ι : List Loc} {H H' : Heap} {lg : Lg} (hH : HR w X ι H) {n : Nat} {ps : List (Nat × V)} {us : Array (Nat × Value)} {r : V} (hlen : ps.length = us.size)
    (hps : ∀ (j : Nat) (p : Nat × V) (u : Nat × Value), ps[j]? = some p → us[j]? = some u → p.1 = u.1 ∧ VR w (OX X ι H) ι p.2 u.2) (h : abuildSlice E H ti n ps = some (r, H', lg)) :
    ∃ w' ι' q, (Instr.buildSlice t n us).run P w = .ok q w' ∧ HR w' X ι' H' ∧ VR w' (OX X ι' H') ι' r q ∧ Fr w ι H lg.mv w' ι' H' := by
  unfold abuildSlice at h
  split at h
  · rename_i e hd
    cases hte : E.ty e with
    | none => simp [hte] at h
    | some te =>
      simp only [hte] at h
      split at h
      · rename_i hc
        obtain ⟨hsz, hzk⟩ := hc
        cases hsp : setParts te.ek n (List.replicate n (.p te.z)) ps with
        | none => simp [hsp] at h
        | some vs =>
          simp only [hsp, Option.some.injEq, Prod.mk.injEq] at h
          obtain ⟨rfl, rfl, rfl⟩ := h
          obtain ⟨z, hz, hR⟩ := run_zero hT hte (w := w) (OX X ι H)
          obtain ⟨zs, hzs⟩ : ∃ zs : Array Value, zs = if n * te.sz = 0 then #[] else z.cells := ⟨_, rfl⟩
          have hsz' : te.ek.sz = te.sz := rfl
          obtain ⟨cs, c1, c2, c3, c4⟩ := setParts_sound (w := w) (O := OX X ι H) (ι := ι) ps us.toList _ vs ((Array.range (n * te.sz)).map (zs[· % zs.size]!)) hsp (by simp) (by simp [hsz']) (VReps.zeros hR hzk n (n * te.sz) (Nat.le_refl _) zs (fun h1 h2 => by
            rw [hzs, if_neg]
            intro h3
            rcases Nat.mul_eq_zero.1 h3 with h3 | h3
            · exact h2 h3
            · exact h1 h3)) (by simpa using hlen) (fun j p u hp hu => hps j p u hp (by simpa using hu))
          have hcs : cs.size = n * te.sz := by rw [c2]; simp
          obtain ⟨h1, h2⟩ := hH.cells c4 (by rw [c3, hsz']; omega) e (0, 0) (by simp) (mkBlk te.ek vs) (mkBlk_or _ _)
          refine ⟨_, _, .slice (some ⟨w.heap.size, 0, none⟩) n n, ?_, h1, ?_, h2⟩
          · simp only [hsz'] at c1
            simp only [Instr.buildSlice, Sem.run_bind, run_und hT ht, hd, Result.andThen_ok, run_sz hT hte]
            rw [if_neg (by omega)]
            by_cases h0 : n * te.sz = 0
            · rw [if_pos h0] at hzs
              subst hzs
              rw [if_pos h0]
              simp only [Sem.run_bind, Sem.run_pure, Result.andThen_ok, c1]
              simp [newRow]
            · rw [if_neg h0] at hzs
              subst hzs
              rw [if_neg h0]
              simp only [Sem.run_bind, Sem.run_pure, hz, Result.andThen_ok, c1]
              simp [newRow]
          · exact VR.ls_new (by rw [← hH.len]; simp; rfl) rfl c3 (Nat.le_refl _) (by simp [hcs, hsz'])
      · cases h
  · cases h
theorem amakeSlice_sound {X : Nat → Prop} {ι : List Loc} {H H' : Heap} {lg : Lg} (hH : HR w X ι H) {len cap r : V} {ul uc : Value} (hl : VR w (OX X ι H) ι len ul) (hc : VR w (OX X ι H) ι cap uc) (h : amakeSlice E H ti len cap = some (r, H', lg)) :
    ∃ w' ι' q, (Instr.makeSlice t ul uc).run P w = .ok q w' ∧ HR w' X ι' H' ∧ VR w' (OX X ι' H') ι' r q ∧ Fr w ι H lg.mv w' ι' H' := by
  unfold amakeSlice at h
  split at h
  · rename_i e k1 l k2 c hd
    obtain rfl : ul = .int k1 l := (by cases hl with | p _ _ h => cases h; rfl)
    obtain rfl : uc = .int k2 c := (by cases hc with | p _ _ h => cases h; rfl)
    cases hte : E.ty e with
    | none => simp [hte] at h
    | some te =>
      simp only [hte] at h
      split at h
      · rename_i hcond
        obtain ⟨c0, c1, c2, c3, c4⟩ := hcond
        simp only [Option.some.injEq, Prod.mk.injEq] at h
        obtain ⟨rfl, rfl, rfl⟩ := h
        obtain ⟨z, hz, hR⟩ := run_zero hT hte (w := w) (OX X ι H)
        obtain ⟨i, hi, hi1, hi2⟩ := run_info hT hte (w := w)
        have hsz' : te.ek.sz = te.sz := rfl
        have hwl : IntKind.i64.wrap l = l := IntWalk.i64_in _ (by omega)
        have hwc : IntKind.i64.wrap c = c := IntWalk.i64_in _ (by omega)
        obtain ⟨zs, hzs⟩ : ∃ zs : Array Value, zs = if c.toNat * te.sz = 0 then #[] else z.cells := ⟨_, rfl⟩
        have hlc : l.toNat ≤ c.toNat := by omega
        have hrep := VReps.zeros (ι := ι) hR c4 l.toNat (c.toNat * te.sz) (Nat.mul_le_mul_right _ hlc) zs (fun h1 h2 => by
          rw [hzs, if_neg]
          intro h3
          rcases Nat.mul_eq_zero.1 h3 with h3 | h3
          · omega
          · exact h1 h3)
        obtain ⟨h1, h2⟩ := hH.cells hrep (by simp only [List.length_replicate, Array.size_map, Array.size_range]; exact Nat.mul_le_mul_right _ hlc) e (0, 0) (by simp) (.pu te.ek (List.replicate l.toNat te.z)) (.inr ⟨_, by simp, rfl⟩)
        refine ⟨_, _, .slice (some ⟨w.heap.size, 0, none⟩) l.toNat c.toNat, ?_, h1, ?_, h2⟩
        · have t1 : ¬ (c < 0) := by omega
          have t2 : ¬ ((i.bytes : Int) * c > 2 ^ 48) := by rw [hi2]; omega
          have t3 : ¬ (l < 0) := by omega
          have t4 : ¬ (l > c) := by omega
          simp only [Instr.makeSlice, Sem.run_bind, run_und hT ht, hd, Result.andThen_ok, asInt, asIntOf, Sem.run_pure, hi, hwl, hwc, t1, t2, t3, t4, decide_false, Bool.or_false, Bool.false_eq_true, if_false, run_askRoom, run_sz hT hte]
          by_cases h0 : c.toNat * te.sz = 0
          · rw [if_pos h0] at hzs
            subst hzs
            rw [if_pos h0]
            simp only [Sem.run_bind, Sem.run_pure, Result.andThen_ok]
            simp only [newRow, Sem.run_bind, run_newObj, Sem.run_pure, Result.andThen_ok]
            rfl
          · rw [if_neg h0] at hzs
            subst hzs
            rw [if_neg h0]
            simp only [Sem.run_bind, Sem.run_pure, hz, Result.andThen_ok]
            simp only [newRow, Sem.run_bind, run_newObj, Sem.run_pure, Result.andThen_ok]
            rfl
        · exact VR.ls_new (by rw [← hH.len]; simp; rfl) rfl (by simp) hlc (by simp [hsz'])
      · cases h
  · cases h
end
end Go.Ab
