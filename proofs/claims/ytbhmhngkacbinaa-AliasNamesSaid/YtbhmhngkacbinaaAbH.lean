/- The interpreter's stores and new blocks against the model's. Conditions: the table of types. -/
import Derived.Test.YtbhmhngkacbinaaAbG
namespace Go.Ab
open Go.RowKit
set_option autoImplicit false
set_option linter.unusedSimpArgs false

theorem stV_kd {k : EK} {t : TI} {f : Nat} {x v y : V} (h : stV k t f x v = some y) : v.kd t.ek = true := by
  unfold stV at h
  split at h
  · assumption
  · cases h
theorem room_there {w : World} {b n : Nat} (h : Room w b n) {off m : Nat} (hm : off + m ≤ n) (j : Nat) (hj : j < m) : (w.cell? ⟨b, off + j, none⟩).isSome = true ∧ w.frozen? ⟨b, off + j, none⟩ = false := by
  obtain ⟨cs, e, fz, hb, hn⟩ := h.there
  refine ⟨?_, h.free _ (by omega)⟩
  simp only [World.cell?, hb]
  have : off + j < cs.size := by omega
  simp [this]
theorem run_storeCells_room {P : Program} {w : World} {b n : Nat} (h : Room w b n) {off : Nat} {us : List Value} (hm : off + us.length ≤ n) (h1 : ∀ v ∈ us, isCell v) : (storeCells ⟨b, off, none⟩ us).run P w = .ok () (w.setCells b off us) := by
  have := run_storeCells_cells (P := P) b off us 0 w (fun j hj => by simpa using (room_there h hm j hj).1) (fun j hj => by simpa using (room_there h hm j hj).2) h1
  simpa using this
theorem Room.setCells {w : World} {b n : Nat} (h : Room w b n) (off : Nat) (us : List Value) : Room (w.setCells b off us) b n where
  there := by
    obtain ⟨cs, e, fz, hb, hn⟩ := h.there
    obtain ⟨cs', h1, h2⟩ := (setCells_heap b us off w).2.2.2.2.2 cs e fz hb
    exact ⟨cs', e, fz, h1, h2.trans hn⟩
  free q hq := by rw [World.frozen?_setCells]; exact h.free q hq
theorem cell_set_in {w : World} {b n : Nat} (h : Room w b n) {off : Nat} {us : List Value} (hm : off + us.length ≤ n) {j : Nat} {u : Value} (hu : us[j]? = some u) : (w.setCells b off us).cell? ⟨b, off + j, none⟩ = some u := by
  obtain ⟨hj, e⟩ := List.getElem?_eq_some_iff.1 hu
  have := World.cell?_setCells_in b us off w (fun j hj => (room_there h hm j hj).1) j hj
  rw [this, e]
theorem cell_set_out {w : World} {b off : Nat} {us : List Value} {q : Nat} (hq : q < off ∨ off + us.length ≤ q) : (w.setCells b off us).cell? ⟨b, q, none⟩ = w.cell? ⟨b, q, none⟩ :=
  World.cell?_setCells_out b us off w ⟨b, q, none⟩ (fun _ _ => hq)

theorem store_lies {α : Type} {cells : α → List α} {fits : EK → α → Prop} {R R' : α → Value → Prop} {w : World} {b n : Nat} (hroom : Room w b n) {k : EK} {xs : List α} {o i f : Nat} {x y : α} {us : List Value}
    (h : Lies cells fits R (fun off => w.cell? ⟨b, off, none⟩) k xs o) (hx : xs[i]? = some x) (hlen : ∀ x, fits k x → (cells x).length = k.sz) (hy : fits k y) (hf : f + us.length ≤ k.sz) (hn : o + xs.length * k.sz ≤ n)
    (hs : ∀ (j : Nat) (d : α), (cells y)[j]? = some d → (f ≤ j ∧ j < f + us.length ∧ ∀ u, us[j - f]? = some u → isCell u ∧ R' d u) ∨ ((j < f ∨ f + us.length ≤ j) ∧ (cells x)[j]? = some d))
    (hR : ∀ (j : Nat) (x : α) (q : Nat) (d : α) (u : Value), xs[j]? = some x → (cells x)[q]? = some d → R d u → R' d u) :
    Lies cells fits R' (fun off => (w.setCells b (o + i * k.sz + f) us).cell? ⟨b, off, none⟩) k (xs.set i y) o := by
  have hi : i < xs.length := (List.getElem?_eq_some_iff.1 hx).1
  have hb : o + i * k.sz + k.sz ≤ n := by
    have : (i + 1) * k.sz ≤ xs.length * k.sz := Nat.mul_le_mul_right _ hi
    rw [Nat.add_mul] at this
    omega
  refine h.set hlen hy (fun off ho => cell_set_out (by omega)) ?_ hR
  intro j d hd
  rcases hs j d hd with ⟨h1, h2, h3⟩ | ⟨h1, h2⟩
  · have hu := List.getElem?_eq_getElem (l := us) (i := j - f) (by omega)
    refine ⟨us[j - f], ?_, h3 _ hu⟩
    have := cell_set_in hroom (off := o + i * k.sz + f) (us := us) (by omega) hu
    rw [← this]
    congr 2
    omega
  · obtain ⟨u, g1, g2, g3⟩ := h.rep i x j d hx h2
    refine ⟨u, ?_, g2, hR i x j d u hx h2 g3⟩
    have hj : j < k.sz := by rw [← hlen x (h.fit i x hx)]; exact (List.getElem?_eq_some_iff.1 h2).1
    rw [← g1]
    exact cell_set_out (by omega)

section
variable {P : Program} {ty : Ty} (hT : TyOk P ty) {t : Nat} {ti : TI} (ht : ty t = some ti) {w : World}
include hT ht
theorem run_storeAt_room {b n off : Nat} (h : Room w b n) {u : Value} (hs : u.cells.size = ti.sz) (hm : off + ti.sz ≤ n) (h1 : ∀ v ∈ u.cells.toList, isCell v) :
    (Instr.storeAt t (.pointer (some ⟨b, off, none⟩)) u).run P w = .ok () (w.setCells b off u.cells.toList) := by
  simp only [Instr.storeAt, Instr.sureAddr, Sem.run_bind, Sem.run_pure, Result.andThen_ok, storeVar, run_sz hT ht, hs, ne_eq, not_true_eq_false, if_false]
  exact run_storeCells_room h (by simpa [hs] using hm) h1
theorem astore_sound {X : Nat → Prop} {ι : List Loc} {H H' : Heap} (hH : HR w X ι H) {a v : V} {ua uv : Value} (ha : VR w (OX X ι H) ι a ua) (hv : VR w (OX X ι H) ι v uv) (h : astore H ti a v = some H') :
    ∃ w', (Instr.storeAt t ua uv).run P w = .ok () w' ∧ HR w' X ι H' ∧ Fr w ι H [] w' ι H' := by
  cases a with
  | lp id i f =>
    simp only [astore] at h
    cases ha with
    | lp _ _ _ l b o hl hp =>
      cases hB : H[id]? with
      | none => simp [hB] at h
      | some B =>
        have hbr := hH.blk id l B hl hB
        rw [hB] at h
        cases B with
        | pu k xs =>
          obtain ⟨h1, h2, h3⟩ := hbr
          simp only [hp] at h3
          obtain ⟨hroom, hn, hlies⟩ := h3
          cases hx : xs[i]? with
          | none => simp [hx] at h
          | some x =>
            simp only [hx] at h
            have hfx := hlies.fit i x hx
            have hi : i < xs.length := (List.getElem?_eq_some_iff.1 hx).1
            have hblock : o + i * k.sz + k.sz ≤ l.n := by
              have : (i + 1) * k.sz ≤ xs.length * k.sz := Nat.mul_le_mul_right _ hi
              rw [Nat.add_mul] at this
              omega
            have fin : ∀ (B' : Blk), B'.live = true → v.kd ti.ek = true → f + ti.sz ≤ k.sz → H' = H.set id B' →
                (Same w (Own ι H) (w.setCells b (o + i * k.sz + f) uv.cells.toList) (Own ι (H.set id B')) → BR (w.setCells b (o + i * k.sz + f) uv.cells.toList) (OX X ι (H.set id B')) ι l B') →
                ∃ w', (Instr.storeAt t (.pointer (some ⟨b, o + i * l.sz + f, none⟩)) uv).run P w = .ok () w' ∧ HR w' X ι H' ∧ Fr w ι H [] w' ι H' := by
              rintro B' hlv hk hfm rfl hBR
              obtain ⟨q1, q2, q3⟩ := kd_v hv hk
              have hsz : ti.ek.sz = ti.sz := rfl
              have hcell : ∀ x ∈ uv.cells.toList, isCell x := fun x hx => by
                obtain ⟨j, hj, rfl⟩ := List.getElem_of_mem hx
                have hj' : j < uv.cells.size := by simpa using hj
                have hc := List.getElem?_eq_getElem (l := v.cells) (i := j) (by rw [q1.len]; omega)
                exact (q3 j _ _ hc (by simp [hj'])).1
              obtain ⟨e1, e2, e3, e4, e5, _⟩ := setCells_heap b uv.cells.toList (o + i * k.sz + f) w
              obtain ⟨r1, r2⟩ := hH.write (w' := w.setCells b (o + i * k.sz + f) uv.cells.toList) hl hB rfl hp hlv e1 e5 e3 e2 e4 hBR
              refine ⟨_, ?_, r1, r2⟩
              rw [h1]
              exact run_storeAt_room hT ht hroom (by omega) (by omega) hcell
            cases v with
            | p v =>
              simp only at h
              cases hy : stE k ti f x v with
              | none => simp [hy] at h
              | some y =>
                simp only [hy, Option.some.injEq] at h
                have hk : v.kd ti.ek = true := by
                  unfold stE at hy
                  split at hy
                  · assumption
                  · cases hy
                cases hv with
                | p _ _ hv =>
                  obtain ⟨q1, q2, q3⟩ := kd_pv hv hk
                  obtain ⟨s1, s2, s3⟩ := stE_spec hfx q1 hy
                  refine fin (.pu k (xs.set i y)) rfl hk s2 h.symm (fun hs => ⟨h1, by simp [h2], ?_⟩)
                  simp only [hp]
                  refine ⟨hroom.setCells _ _, by simpa using hn, ?_⟩
                  have hlu : uv.cells.toList.length = ti.sz := by simp; exact q2
                  refine store_lies hroom hlies hx (fun x hx => hx.len) s1 (by omega) hn ?_ (fun _ _ _ _ _ _ _ hR => hR.keep (hs.withX X))
                  intro j d hd
                  rw [hlu]
                  rcases s3 j d hd with ⟨g1, g2, g3⟩ | g
                  · exact .inl ⟨g1, g2, fun u hu => ⟨(q3 _ d u g3 (by simpa using hu)).1, (q3 _ d u g3 (by simpa using hu)).2.keep (hs.withX X)⟩⟩
                  · exact .inr g
            | _ =>
              all_goals
                simp only at h
                split at h
                case h_2 => cases h
                case h_1 y hy =>
                  simp only [Option.some.injEq] at h
                  have hk := stV_kd hy
                  case _ =>
                    obtain ⟨q1, q2, q3⟩ := kd_v hv hk
                    have hfxV : (V.p x).fits k := ⟨by simp [V.cells, hfx.len], hfx.ag, hfx.wf⟩
                    obtain ⟨s1, s2, s3⟩ := stV_spec hfxV q1 hy
                    refine fin (.mi k ((xs.map V.p).set i y)) rfl hk s2 h.symm (fun hs => ⟨h1, by simp [h2], ?_⟩)
                    simp only [hp]
                    refine ⟨hroom.setCells _ _, by simpa using hn, ?_⟩
                    have hlu : uv.cells.toList.length = ti.sz := by simp; exact q2
                    have hliesV : VLies w (OX X ι H) ι b k (xs.map V.p) o := ⟨fun j z hz => by
                        simp only [List.getElem?_map, Option.map_eq_some_iff] at hz
                        obtain ⟨d, hd, rfl⟩ := hz
                        have := hlies.fit j d hd
                        exact ⟨by simp [V.cells, this.len], this.ag, this.wf⟩, fun j z q c hz hc => by
                        simp only [List.getElem?_map, Option.map_eq_some_iff] at hz
                        obtain ⟨d, hd, rfl⟩ := hz
                        simp only [V.cells, List.getElem?_map, Option.map_eq_some_iff] at hc
                        obtain ⟨e, he, rfl⟩ := hc
                        obtain ⟨u, g1, g2, g3⟩ := hlies.rep j d q e hd he
                        exact ⟨u, g1, g2, .p _ _ g3⟩⟩
                    refine store_lies hroom hliesV (x := V.p x) (by simp [hx]) (fun x hx => hx.len) s1 (by omega) (by simpa using hn) ?_ (fun _ _ _ _ _ _ _ hR => hR.keep (hs.withX X) (fun _ _ => rfl))
                    intro j d hd
                    rw [hlu]
                    rcases s3 j d hd with ⟨g1, g2, g3⟩ | g
                    · exact .inl ⟨g1, g2, fun u hu => ⟨(q3 _ d u g3 (by simpa using hu)).1, (q3 _ d u g3 (by simpa using hu)).2.keep (hs.withX X) (fun _ _ => rfl)⟩⟩
                    · exact .inr g
        | mi k xs =>
          obtain ⟨h1, h2, h3⟩ := hbr
          simp only [hp] at h3
          obtain ⟨hroom, hn, hlies⟩ := h3
          cases hx : xs[i]? with
          | none => simp [hx] at h
          | some x =>
            simp only [hx] at h
            have hfx := hlies.fit i x hx
            have hi : i < xs.length := (List.getElem?_eq_some_iff.1 hx).1
            have hblock : o + i * k.sz + k.sz ≤ l.n := by
              have : (i + 1) * k.sz ≤ xs.length * k.sz := Nat.mul_le_mul_right _ hi
              rw [Nat.add_mul] at this
              omega
            cases hy : stV k ti f x v with
            | none => simp [hy] at h
            | some y =>
              simp only [hy, Option.some.injEq] at h
              subst h
              have hk : v.kd ti.ek = true := by
                unfold stV at hy
                split at hy
                · assumption
                · cases hy
              obtain ⟨q1, q2, q3⟩ := kd_v hv hk
              obtain ⟨s1, s2, s3⟩ := stV_spec hfx q1 hy
              have hsz : ti.ek.sz = ti.sz := rfl
              have hcell : ∀ x ∈ uv.cells.toList, isCell x := fun x hx => by
                obtain ⟨j, hj, rfl⟩ := List.getElem_of_mem hx
                have hj' : j < uv.cells.size := by simpa using hj
                have hc := List.getElem?_eq_getElem (l := v.cells) (i := j) (by rw [q1.len]; omega)
                exact (q3 j _ _ hc (by simp [hj'])).1
              obtain ⟨e1, e2, e3, e4, e5, _⟩ := setCells_heap b uv.cells.toList (o + i * k.sz + f) w
              have hlu : uv.cells.toList.length = ti.sz := by simp; exact q2
              obtain ⟨r1, r2⟩ := hH.write (w' := w.setCells b (o + i * k.sz + f) uv.cells.toList) (B' := .mi k (xs.set i y)) hl hB rfl hp rfl e1 e5 e3 e2 e4 (fun hs => by
                refine ⟨h1, by simp [h2], ?_⟩
                simp only [hp]
                refine ⟨hroom.setCells _ _, by simpa using hn, ?_⟩
                refine store_lies hroom hlies hx (fun x hx => hx.len) s1 (by omega) hn ?_ (fun _ _ _ _ _ _ _ hR => hR.keep (hs.withX X) (fun _ _ => rfl))
                intro j d hd
                rw [hlu]
                rcases s3 j d hd with ⟨g1, g2, g3⟩ | g
                · exact .inl ⟨g1, g2, fun u hu => ⟨(q3 _ d u g3 (by simpa using hu)).1, (q3 _ d u g3 (by simpa using hu)).2.keep (hs.withX X) (fun _ _ => rfl)⟩⟩
                · exact .inr g)
              refine ⟨_, ?_, r1, r2⟩
              rw [h1]
              exact run_storeAt_room hT ht hroom (by omega) (by omega) hcell
        | _ => simp at h
  | _ => simp [astore] at h
end
end Go.Ab
