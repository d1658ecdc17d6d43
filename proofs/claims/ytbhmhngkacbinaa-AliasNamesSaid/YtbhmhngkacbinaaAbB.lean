/- What the interpreter's values say of the model's memory. No conditions. -/
import Derived.Test.YtbhmhngkacbinaaAbA
import Derived.Orders
import Derived.LoopN
import Derived.ChangeKeysEq
import Derived.Deep.MidRow
import Derived.Below
namespace Go.Ab
open Go.RowKit
set_option autoImplicit false

theorem all_of_get {α : Type} {l : List α} {P : α → Prop} (h : ∀ (i : Nat) (x : α), l[i]? = some x → P x) : ∀ x ∈ l, P x := fun x hx => by
  obtain ⟨i, hi, rfl⟩ := List.getElem_of_mem hx
  exact h i _ (List.getElem?_eq_getElem hi)

abbrev isCell (u : Value) : Prop := u.oneCell' = true

def PV.isAgg : PV → Bool
  | .agg .. => true
  | _ => false
def V.isAgg : V → Bool
  | .p x => x.isAgg
  | .agg .. => true
  | .tup _ => true
  | _ => false
def PV.wf : PV → Prop
  | .agg n cs => cs.length = n ∧ ∀ (i : Nat) (c : PV), cs[i]? = some c → c.isAgg = false
  | _ => True
def V.wf : V → Prop
  | .p x => x.wf
  | .agg n cs => cs.length = n ∧ ∀ (i : Nat) (c : V), cs[i]? = some c → c.isAgg = false
  | .tup _ => False
  | _ => True
structure PV.fits (k : EK) (x : PV) : Prop where
  len : x.cells.length = k.sz
  ag : x.isAgg = k.ag
  wf : x.wf
structure V.fits (k : EK) (x : V) : Prop where
  len : x.cells.length = k.sz
  ag : x.isAgg = k.ag
  wf : x.wf
inductive PR (w : World) (O : Nat → Prop) : PV → Value → Prop
  | undef (u : Value) : PR w O .undef u
  | bool (b : Bool) : PR w O (.bool b) (.bool b)
  | int (k : IntKind) (n : Int) : PR w O (.int k n) (.int k n)
  | flt (k : FloatKind) (b : Nat) : PR w O (.flt k b) (.float k b)
  | str (s : ByteArray) : PR w O (.str s.data.toList) (.string s)
  | agg (n : Nat) (cs : List PV) (us : Array Value) (hn : cs.length = n) (hu : us.size = n) (hs : ∀ (i : Nat) (c : PV), cs[i]? = some c → c.isAgg = false)
      (hc : ∀ (i : Nat) (u : Value), us[i]? = some u → isCell u) (h : ∀ (i : Nat) (c : PV) (u : Value), cs[i]? = some c → us[i]? = some u → PR w O c u) : PR w O (.agg n cs) (.agg us)
  | nils : PR w O .nils (.slice none 0 0)
  | slNil (k : EK) (a : Option Addr) : PR w O (.sl k []) (.slice a 0 0)
  | sl (k : EK) (xs : List PV) (b o cap : Nat) (hf : ∀ (i : Nat) (x : PV), xs[i]? = some x → x.fits k) (hb : xs ≠ [] → b < w.heap.size ∧ ¬ O b)
      (hm : ∀ (i : Nat) (x : PV) (j : Nat) (c : PV), xs[i]? = some x → x.cells[j]? = some c → ∃ u, w.cell? ⟨b, o + i * k.sz + j, none⟩ = some u ∧ isCell u)
      (hr : ∀ (i : Nat) (x : PV) (j : Nat) (c : PV), xs[i]? = some x → x.cells[j]? = some c → PR w O c ((w.cell? ⟨b, o + i * k.sz + j, none⟩).getD undef))
      (hl : xs.length ≤ cap) : PR w O (.sl k xs) (.slice (some ⟨b, o, none⟩) xs.length cap)
  | nilp : PR w O .nilp (.pointer none)
  | pp (k : EK) (xs : List PV) (i f b o : Nat) (hi : i < xs.length) (hf : ∀ (i : Nat) (x : PV), xs[i]? = some x → x.fits k) (hb : xs ≠ [] → b < w.heap.size ∧ ¬ O b)
      (hm : ∀ (i : Nat) (x : PV) (j : Nat) (c : PV), xs[i]? = some x → x.cells[j]? = some c → ∃ u, w.cell? ⟨b, o + i * k.sz + j, none⟩ = some u ∧ isCell u)
      (hr : ∀ (i : Nat) (x : PV) (j : Nat) (c : PV), xs[i]? = some x → x.cells[j]? = some c → PR w O c ((w.cell? ⟨b, o + i * k.sz + j, none⟩).getD undef)) :
      PR w O (.pp k xs i f) (.pointer (some ⟨b, o + i * k.sz + f, none⟩))
  | fn (f : Fn) (cs : List PV) (us : Array Value) (hn : cs.length = us.size) (h : ∀ (i : Nat) (c : PV) (u : Value), cs[i]? = some c → us[i]? = some u → PR w O c u) : PR w O (.fn f cs) (.func f #[] us)
  | nilfn : PR w O .nilfn .nilFunc
  | ifc (t : TypeId) (v : PV) (u : Value) (h : PR w O v u) : PR w O (.ifc t v) (.iface t u)
  | nilif : PR w O .nilif .nilIface
  | mp (ks vs : List PV) (r : Nat) (es : Array MapEntry) (clk : Nat) (hr : w.heap[r]? = some (.map es clk)) (hO : ¬ O r) (hk : ks.length = es.size) (hv : vs.length = es.size)
      (h1 : ∀ (i : Nat) (c : PV) (e : MapEntry), ks[i]? = some c → es[i]? = some e → PR w O c e.key) (h2 : ∀ (i : Nat) (c : PV) (e : MapEntry), vs[i]? = some c → es[i]? = some e → PR w O c e.val) : PR w O (.mp ks vs) (.map (some r))

theorem PR.wf {w : World} {O : Nat → Prop} {x : PV} {u : Value} (h : PR w O x u) : x.wf := by
  cases h with
  | agg n cs us hn hu hs hc h => exact ⟨hn, hs⟩
  | _ => trivial

/-- What is not owned stands as it stood. -/
structure Same (w : World) (O : Nat → Prop) (w' : World) (O' : Nat → Prop) : Prop where
  block : ∀ b, b < w.heap.size → ¬ O b → w'.heap[b]? = w.heap[b]?
  size : w.heap.size ≤ w'.heap.size
  own : ∀ b, O' b → O b ∨ w.heap.size ≤ b
theorem Same.refl (w : World) (O : Nat → Prop) : Same w O w O := ⟨fun _ _ _ => rfl, Nat.le_refl _, fun _ h => .inl h⟩
theorem Same.trans {w w1 w2 : World} {O O1 O2 : Nat → Prop} (h : Same w O w1 O1) (g : Same w1 O1 w2 O2) : Same w O w2 O2 where
  block b hb hO := (g.block b (Nat.lt_of_lt_of_le hb h.size) (fun h1 => (h.own b h1).elim hO (fun h2 => by omega))).trans (h.block b hb hO)
  size := Nat.le_trans h.size g.size
  own b hb := (g.own b hb).elim (fun h1 => h.own b h1) (fun h1 => .inr (Nat.le_trans h.size h1))
theorem Same.cell {w w' : World} {O O' : Nat → Prop} (h : Same w O w' O') {b : Nat} (hb : b < w.heap.size) (hO : ¬ O b) (off : Nat) : w'.cell? ⟨b, off, none⟩ = w.cell? ⟨b, off, none⟩ := by
  simp only [World.cell?, h.block b hb hO]
theorem heap_lt {w : World} {b : Nat} {x : Obj} (h : w.heap[b]? = some x) : b < w.heap.size := (Array.getElem?_eq_some_iff.1 h).1
theorem cell_lt {w : World} {b o : Nat} {u : Value} (h : w.cell? ⟨b, o, none⟩ = some u) : b < w.heap.size := by
  simp only [World.cell?] at h
  cases hb : w.heap[b]? with
  | none => simp [hb] at h
  | some x => exact heap_lt hb
theorem Same.not_own {w w' : World} {O O' : Nat → Prop} (h : Same w O w' O') {b : Nat} (hb : b < w.heap.size) (hO : ¬ O b) : ¬ O' b := fun h1 => (h.own b h1).elim hO (fun h2 => by omega)
theorem PR.keep {w w' : World} {O O' : Nat → Prop} (hs : Same w O w' O') {x : PV} {u : Value} (h : PR w O x u) : PR w' O' x u := by
  induction h with
  | undef u => exact .undef u
  | bool b => exact .bool b
  | int k n => exact .int k n
  | flt k b => exact .flt k b
  | str s => exact .str s
  | agg n cs us hn hu h1 hc _ ih => exact .agg n cs us hn hu h1 hc ih
  | nils => exact .nils
  | slNil k a => exact .slNil k a
  | sl k xs b o cap hf hb hm _ hl ih =>
    have hc : ∀ (i : Nat) (x : PV) (off : Nat), xs[i]? = some x → w'.cell? ⟨b, off, none⟩ = w.cell? ⟨b, off, none⟩ := fun i x off hx => hs.cell (hb (by rintro rfl; simp at hx)).1 (hb (by rintro rfl; simp at hx)).2 off
    exact .sl k xs b o cap hf (fun hx => ⟨Nat.lt_of_lt_of_le (hb hx).1 hs.size, hs.not_own (hb hx).1 (hb hx).2⟩) (fun i x j c hx hj => by rw [hc i x _ hx]; exact hm i x j c hx hj) (fun i x j c hx hj => by rw [hc i x _ hx]; exact ih i x j c hx hj) hl
  | nilp => exact .nilp
  | pp k xs i f b o hi hf hb hm _ ih =>
    have hc : ∀ (i : Nat) (x : PV) (off : Nat), xs[i]? = some x → w'.cell? ⟨b, off, none⟩ = w.cell? ⟨b, off, none⟩ := fun i x off hx => hs.cell (hb (by rintro rfl; simp at hx)).1 (hb (by rintro rfl; simp at hx)).2 off
    exact .pp k xs i f b o hi hf (fun hx => ⟨Nat.lt_of_lt_of_le (hb hx).1 hs.size, hs.not_own (hb hx).1 (hb hx).2⟩) (fun i x j c hx hj => by rw [hc i x _ hx]; exact hm i x j c hx hj) (fun i x j c hx hj => by rw [hc i x _ hx]; exact ih i x j c hx hj)
  | fn f cs us hn _ ih => exact .fn f cs us hn ih
  | nilfn => exact .nilfn
  | ifc t v u _ ih => exact .ifc t v u ih
  | nilif => exact .nilif
  | mp ks vs r es clk hr hO hk hv _ _ ih1 ih2 =>
    exact .mp ks vs r es clk ((hs.block r (heap_lt hr) hO).trans hr) (hs.not_own (heap_lt hr) hO) hk hv ih1 ih2

/-- Where a numbered block lies: a block and an offset (or nowhere: an empty slice); cells of an element, elements, cells of the whole block. -/
structure Loc where
  pl : Option (Nat × Nat)
  sz : Nat
  len : Nat
  n : Nat

inductive VR (w : World) (O : Nat → Prop) (ι : List Loc) : V → Value → Prop
  | p (x : PV) (u : Value) (h : PR w O x u) : VR w O ι (.p x) u
  | agg (n : Nat) (cs : List V) (us : Array Value) (hn : cs.length = n) (hu : us.size = n) (hs : ∀ (i : Nat) (c : V), cs[i]? = some c → c.isAgg = false)
      (hc : ∀ (i : Nat) (u : Value), us[i]? = some u → isCell u) (h : ∀ (i : Nat) (c : V) (u : Value), cs[i]? = some c → us[i]? = some u → VR w O ι c u) : VR w O ι (.agg n cs) (.agg us)
  | lp (id i f : Nat) (l : Loc) (b o : Nat) (hl : ι[id]? = some l) (hp : l.pl = some (b, o)) : VR w O ι (.lp id i f) (.pointer (some ⟨b, o + i * l.sz + f, none⟩))
  | ls (id : Nat) (l : Loc) (b o cap : Nat) (hl : ι[id]? = some l) (hp : l.pl = some (b, o)) (h1 : l.len ≤ cap) (h2 : o + cap * l.sz ≤ l.n) : VR w O ι (.ls id) (.slice (some ⟨b, o, none⟩) l.len cap)
  | lsNil (id : Nat) (l : Loc) (a : Option Addr) (hl : ι[id]? = some l) (hp : l.pl = none) (h1 : l.len = 0) : VR w O ι (.ls id) (.slice a 0 0)
  | lsub (id q m : Nat) (l : Loc) (b o cap : Nat) (hl : ι[id]? = some l) (hp : l.pl = some (b, o)) (h1 : m ≤ cap) (h2 : o + (q + cap) * l.sz ≤ l.n) : VR w O ι (.lsub id q m) (.slice (some ⟨b, o + q * l.sz, none⟩) m cap)
  | lsubNil (id q : Nat) (l : Loc) (a : Option Addr) (hl : ι[id]? = some l) (hg : l.pl = none → l.len = 0) : VR w O ι (.lsub id q 0) (.slice a 0 0)
  | fn (f : Fn) (cs : List V) (us : Array Value) (hn : cs.length = us.size) (h : ∀ (i : Nat) (c : V) (u : Value), cs[i]? = some c → us[i]? = some u → VR w O ι c u) : VR w O ι (.fn f cs) (.func f #[] us)
  | tup (vs : List V) (us : Array Value) (hn : vs.length = us.size) (h : ∀ (i : Nat) (c : V) (u : Value), vs[i]? = some c → us[i]? = some u → VR w O ι c u) : VR w O ι (.tup vs) (.tuple us)
  | lm (id : Nat) (l : Loc) (r o : Nat) (hl : ι[id]? = some l) (hp : l.pl = some (r, o)) : VR w O ι (.lm id) (.map (some r))

theorem mem_refsL {vs : List V} : ∀ {i : Nat} {c : V} {n : Nat}, vs[i]? = some c → n ∈ c.refs → n ∈ V.refs.refsL vs := by
  induction vs with
  | nil => intro i c n h; simp at h
  | cons v r ih =>
    intro i c n h hn
    simp only [V.refs.refsL, List.mem_append]
    cases i with
    | zero => simp at h; subst h; exact .inl hn
    | succ i => simp at h; exact .inr (ih h hn)
theorem VR.keep {w w' : World} {O O' : Nat → Prop} (hs : Same w O w' O') {ι ι' : List Loc} {x : V} {u : Value} (h : VR w O ι x u) (hi : ∀ id ∈ x.refs, ι'[id]? = ι[id]?) : VR w' O' ι' x u := by
  induction h with
  | p x u h => exact .p x u (h.keep hs)
  | agg n cs us hn hu h1 hc _ ih => exact .agg n cs us hn hu h1 hc fun i c u a b => ih i c u a b (fun id hid => hi id (mem_refsL a hid))
  | lp id i f l b o hl hp => exact .lp id i f l b o ((hi id (by simp [V.refs])).trans hl) hp
  | ls id l b o cap hl hp h1 h2 => exact .ls id l b o cap ((hi id (by simp [V.refs])).trans hl) hp h1 h2
  | lsNil id l a hl hp h1 => exact .lsNil id l a ((hi id (by simp [V.refs])).trans hl) hp h1
  | lsub id q m l b o cap hl hp h1 h2 => exact .lsub id q m l b o cap ((hi id (by simp [V.refs])).trans hl) hp h1 h2
  | lsubNil id q l a hl hg => exact .lsubNil id q l a ((hi id (by simp [V.refs])).trans hl) hg
  | fn f cs us hn _ ih => exact .fn f cs us hn fun i c u a b => ih i c u a b (fun id hid => hi id (mem_refsL a hid))
  | tup vs us hn _ ih => exact .tup vs us hn fun i c u a b => ih i c u a b (fun id hid => hi id (mem_refsL a hid))
  | lm id l r o hl hp => exact .lm id l r o ((hi id (by simp [V.refs])).trans hl) hp
theorem VR.refs_lt {w : World} {O : Nat → Prop} {ι : List Loc} {x : V} {u : Value} (h : VR w O ι x u) : ∀ id ∈ x.refs, id < ι.length := by
  have get : ∀ {id : Nat} {l : Loc}, ι[id]? = some l → id < ι.length := fun h => (List.getElem?_eq_some_iff.1 h).1
  have L : ∀ (cs : List V) (n : Nat), cs.length = n → (∀ (i : Nat) (c : V), cs[i]? = some c → ∀ id ∈ c.refs, id < ι.length) → ∀ id ∈ V.refs.refsL cs, id < ι.length := by
    intro cs
    induction cs with
    | nil => intro _ _ _ id h; simp [V.refs.refsL] at h
    | cons v r ih =>
      intro n _ h id hid
      simp only [V.refs.refsL, List.mem_append] at hid
      rcases hid with hid | hid
      · exact h 0 v rfl id hid
      · exact ih _ rfl (fun i c hc => h (i + 1) c (by simpa using hc)) id hid
  induction h with
  | p x u h => intro id hid; simp [V.refs] at hid
  | agg n cs us hn hu h1 hc _ ih => exact L cs n hn (fun i c hi => ih i c _ hi (Array.getElem?_eq_getElem (by have := (List.getElem?_eq_some_iff.1 hi).1; omega)))
  | lp id i f l b o hl hp => intro j hj; simp [V.refs] at hj; subst hj; exact get hl
  | ls id l b o cap hl hp h1 h2 => intro j hj; simp [V.refs] at hj; subst hj; exact get hl
  | lsNil id l a hl hp h1 => intro j hj; simp [V.refs] at hj; subst hj; exact get hl
  | lsub id q m l b o cap hl hp h1 h2 => intro j hj; simp [V.refs] at hj; subst hj; exact get hl
  | lsubNil id q l a hl hg => intro j hj; simp [V.refs] at hj; subst hj; exact get hl
  | fn f cs us hn _ ih => exact L cs _ hn (fun i c hi => ih i c _ hi (Array.getElem?_eq_getElem (by have := (List.getElem?_eq_some_iff.1 hi).1; omega)))
  | tup cs us hn _ ih => exact L cs _ hn (fun i c hi => ih i c _ hi (Array.getElem?_eq_getElem (by have := (List.getElem?_eq_some_iff.1 hi).1; omega)))
  | lm id l r o hl hp => intro j hj; simp [V.refs] at hj; subst hj; exact get hl

def Blk.live : Blk → Bool
  | .pu .. | .mi .. | .mp .. => true
  | _ => false
def Own (ι : List Loc) (H : Heap) (b : Nat) : Prop := ∃ (id : Nat) (l : Loc) (B : Blk) (o : Nat), ι[id]? = some l ∧ H[id]? = some B ∧ B.live = true ∧ l.pl = some (b, o)

/-- Elements that lie in a block's cells. -/
structure Lies {α : Type} (cells : α → List α) (fits : EK → α → Prop) (R : α → Value → Prop) (cell : Nat → Option Value) (k : EK) (xs : List α) (o : Nat) : Prop where
  fit : ∀ (i : Nat) (x : α), xs[i]? = some x → fits k x
  rep : ∀ (i : Nat) (x : α) (j : Nat) (c : α), xs[i]? = some x → (cells x)[j]? = some c → ∃ u, cell (o + i * k.sz + j) = some u ∧ isCell u ∧ R c u
abbrev PLies (w : World) (O : Nat → Prop) (b : Nat) (k : EK) (xs : List PV) (o : Nat) : Prop := Lies PV.cells PV.fits (PR w O) (fun off => w.cell? ⟨b, off, none⟩) k xs o
abbrev VLies (w : World) (O : Nat → Prop) (ι : List Loc) (b : Nat) (k : EK) (xs : List V) (o : Nat) : Prop := Lies V.cells V.fits (VR w O ι) (fun off => w.cell? ⟨b, off, none⟩) k xs o
/-- A block that may be written: all its cells are there, and none is frozen. -/
structure Room (w : World) (b n : Nat) : Prop where
  there : ∃ cs e fz, w.heap[b]? = some (.cells cs e fz) ∧ cs.size = n
  free : ∀ off, off < n → w.frozen? ⟨b, off, none⟩ = false
structure MapAt (w : World) (O : Nat → Prop) (r : Nat) (ks vs : List PV) : Prop where
  at_ : ∃ es clk, w.heap[r]? = some (.map es clk) ∧ ks.length = es.size ∧ vs.length = es.size ∧ (∀ (i : Nat) (c : PV) (e : MapEntry), ks[i]? = some c → es[i]? = some e → PR w O c e.key) ∧ (∀ (i : Nat) (c : PV) (e : MapEntry), vs[i]? = some c → es[i]? = some e → PR w O c e.val)

def BR (w : World) (O : Nat → Prop) (ι : List Loc) (l : Loc) : Blk → Prop
  | .dead => True
  | .pu k xs => l.sz = k.sz ∧ l.len = xs.length ∧ match l.pl with
    | none => xs = []
    | some (b, o) => Room w b l.n ∧ o + xs.length * k.sz ≤ l.n ∧ PLies w O b k xs o
  | .mi k xs => l.sz = k.sz ∧ l.len = xs.length ∧ match l.pl with
    | none => xs = []
    | some (b, o) => Room w b l.n ∧ o + xs.length * k.sz ≤ l.n ∧ VLies w O ι b k xs o
  | .fz k xs => l.sz = k.sz ∧ l.len = xs.length ∧ match l.pl with
    | none => xs = []
    | some (b, o) => b < w.heap.size ∧ ¬ O b ∧ PLies w O b k xs o
  | .mp ks vs => match l.pl with
    | none => False
    | some (b, _) => MapAt w O b ks vs
  | .fm ks vs => match l.pl with
    | none => False
    | some (b, _) => ¬ O b ∧ MapAt w O b ks vs

/-- Owned here, or by others that look on (X). -/
def OX (X : Nat → Prop) (ι : List Loc) (H : Heap) (b : Nat) : Prop := Own ι H b ∨ X b
structure HR (w : World) (X : Nat → Prop) (ι : List Loc) (H : Heap) : Prop where
  len : ι.length = H.length
  blk : ∀ (id : Nat) (l : Loc) (B : Blk), ι[id]? = some l → H[id]? = some B → BR w (OX X ι H) ι l B
  one : ∀ (id id' : Nat) (l l' : Loc) (B B' : Blk) (b o o' : Nat), ι[id]? = some l → ι[id']? = some l' → H[id]? = some B → H[id']? = some B' → B.live = true → B'.live = true → l.pl = some (b, o) → l'.pl = some (b, o') → id = id'
  xlt : ∀ b, X b → b < w.heap.size
  xo : ∀ b, Own ι H b → ¬ X b
theorem Same.withX {w w' : World} {ι ι' : List Loc} {H H' : Heap} (h : Same w (Own ι H) w' (Own ι' H')) (X : Nat → Prop) : Same w (OX X ι H) w' (OX X ι' H') :=
  ⟨fun b hb hO => h.block b hb (fun h1 => hO (.inl h1)), h.size, fun b hb => hb.elim (fun h1 => (h.own b h1).elim (fun h2 => .inl (.inl h2)) .inr) (fun h1 => .inl (.inr h1))⟩
end Go.Ab
