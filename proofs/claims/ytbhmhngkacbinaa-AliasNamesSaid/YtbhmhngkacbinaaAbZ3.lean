/- Tables of types and of functions, and runs that are known. No conditions. -/
import Derived.Test.YtbhmhngkacbinaaAbZ2
namespace Go.Ab
open Go.RowKit
set_option autoImplicit false
set_option linter.unusedSimpArgs false

/-- A table, as a tree. -/
inductive BT (α : Type) where
  | nil
  | node (v : Option α) (l r : BT α)
def BT.get {α : Type} : Nat → BT α → Nat → Option α
  | 0, _, _ => none
  | _ + 1, .nil, _ => none
  | n + 1, .node v l r, i => if i = 0 then v else if i % 2 = 1 then BT.get n l (i / 2) else BT.get n r ((i - 1) / 2)
def BT.mk {α β : Type} (f : Nat → β → α) : Nat → Nat → BT β → BT α
  | _, _, .nil => .nil
  | a, b, .node v l r => .node (match v with | some x => some (f b x) | none => none) (BT.mk f (2 * a) (a + b) l) (BT.mk f (2 * a) (2 * a + b) r)
def BT.allAt {β : Type} (q : Nat → β → Bool) : Nat → Nat → BT β → Bool
  | _, _, .nil => true
  | a, b, .node v l r => (match v with | some x => q b x | none => true) && (BT.allAt q (2 * a) (a + b) l && BT.allAt q (2 * a) (2 * a + b) r)
theorem BT.get_mk {α β : Type} (f : Nat → β → α) (q : Nat → β → Bool) : ∀ (n a b : Nat) (t : BT β) (i : Nat) (x : α), BT.allAt q a b t = true → BT.get n (BT.mk f a b t) i = some x → ∃ y, x = f (a * i + b) y ∧ q (a * i + b) y = true
  | 0, a, b, t, i, x, _, h => by simp [BT.get] at h
  | n + 1, a, b, .nil, i, x, _, h => by simp [BT.mk, BT.get] at h
  | n + 1, a, b, .node v l r, i, x, hq, h => by
    simp only [BT.allAt, Bool.and_eq_true] at hq
    simp only [BT.mk, BT.get] at h
    split at h
    · rename_i h0
      subst h0
      cases v with
      | none => cases h
      | some y =>
        cases h
        exact ⟨y, by rw [Nat.mul_zero, Nat.zero_add], by rw [Nat.mul_zero, Nat.zero_add]; exact hq.1⟩
    · split at h
      · rename_i h0 h1
        have := BT.get_mk f q n _ _ l (i / 2) x hq.2.1 h
        have e : 2 * a * (i / 2) + (a + b) = a * i + b := by
          have : i = 2 * (i / 2) + 1 := by omega
          generalize i / 2 = k at this
          subst this
          rw [Nat.mul_add, Nat.mul_one, ← Nat.mul_assoc, Nat.mul_comm a 2, Nat.add_assoc]
        rwa [e] at this
      · rename_i h0 h1
        have := BT.get_mk f q n _ _ r ((i - 1) / 2) x hq.2.2 h
        have e : 2 * a * ((i - 1) / 2) + (2 * a + b) = a * i + b := by
          have : i = 2 * ((i - 1) / 2) + 2 := by omega
          generalize (i - 1) / 2 = k at this
          subst this
          rw [Nat.mul_add, ← Nat.mul_assoc, Nat.mul_comm a 2, Nat.add_assoc]
        rwa [e] at this

def zv : Value → PV
  | .agg cs => .agg cs.size (cs.toList.map ofVal)
  | v => ofVal v
def isCellB : Value → Bool
  | .agg _ => false
  | .tuple _ => false
  | _ => true
def zvOk : Value → Bool
  | .agg cs => cs.toList.all isCellB
  | _ => true
theorem ofVal_isAgg (v : Value) : (ofVal v).isAgg = false := by
  unfold ofVal
  repeat' split
  all_goals rfl
theorem zv_sound (w : World) (O : Nat → Prop) (v : Value) (h : zvOk v = true) : PR w O (zv v) v := by
  cases v with
  | agg cs =>
    simp only [zvOk, List.all_eq_true] at h
    refine .agg _ _ _ (by simp) rfl (fun i c hc => ?_) (fun i u hu => ?_) (fun i c u hc hu => ?_)
    · simp only [List.getElem?_map, Option.map_eq_some_iff] at hc
      obtain ⟨d, _, rfl⟩ := hc
      exact ofVal_isAgg d
    · have := h u (by have := Array.mem_of_getElem? hu; simpa using this)
      cases u <;> simp [isCellB] at this <;> trivial
    · simp only [List.getElem?_map, Option.map_eq_some_iff] at hc
      obtain ⟨d, hd, rfl⟩ := hc
      rw [Array.getElem?_toList, hu] at hd
      cases hd
      exact ofVal_sound w O u
  | _ => simp only [zv]; exact ofVal_sound w O _
def tiOf (P : Program) (t : Nat) : TI := match P.info? t, P.underlying t with
  | some i, some d => ⟨d, i.size, i.bytes, match i.zero with | some z => zv z | none => .undef⟩
  | _, _ => ⟨.invalid, 0, 0, .undef⟩
def tiOk (P : Program) (t : Nat) : Bool := match P.info? t, P.underlying t with
  | some i, some _ => match i.zero with | some z => zvOk z | none => false
  | _, _ => false
theorem tyOk_of {P : Program} {ty : Ty} {T : BT TI} {S : BT Unit} (hty : ty = fun t => BT.get 20 T t) (hT : T = BT.mk (fun t _ => tiOf P t) 1 0 S) (hq : BT.allAt (fun t _ => tiOk P t) 1 0 S = true) : TyOk P ty := by
  subst hty
  refine ⟨fun t ti h => ?_⟩
  subst hT
  obtain ⟨y, rfl, h2⟩ := BT.get_mk _ _ _ _ _ _ _ _ hq h
  rw [Nat.one_mul, Nat.add_zero] at h2 ⊢
  unfold tiOk at h2
  unfold tiOf
  split at h2
  · rename_i i d h3 h4
    split at h2
    · rename_i z hz
      simp only [h3, h4, hz]
      exact ⟨trivial, i, rfl, rfl, rfl, z, hz, fun w O => zv_sound w O z h2⟩
    · cases h2
  · cases h2

/-- How a function is run. -/
inductive FK where
  | code (m : Mode)
  | bits
  | frombits
def fnOf (P : Program) (f : Nat) : FK → FnE
  | .code m => match P.funcs[f]? with | some F => .code F m | none => .ext fun _ => none
  | .bits => .ext fun | [.flt .f32 b] => some (.int .u32 b) | _ => none
  | .frombits => .ext fun | [.int .u32 n] => some (.flt .f32 n.toNat) | _ => none
def fnOk (P : Program) (f : Nat) : FK → Bool
  | .code _ => match P.funcs[f]? with | some F => !(F.name == "runtime.NumGoroutine") && !F.body.isNone | none => false
  | _ => true
/-- What the table takes for the two functions that the model itself answers. -/
structure BitsAt (P : Program) (a b : Nat) : Prop where
  bits : ∀ (n : Nat) (w : World), (callFunc a #[.float .f32 n]).run P w = .ok (.value (.int .u32 n)) w
  from_ : ∀ (n : Int) (w : World), (callFunc b #[.int .u32 n]).run P w = .ok (.value (.float .f32 n.toNat)) w
theorem one_arg {w : World} {O : Nat → Prop} {p : PV} {us : Array Value} (h1 : [p].length = us.size) (h2 : ∀ (j : Nat) (q : PV) (u : Value), [p][j]? = some q → us[j]? = some u → PR w O q u) : ∃ u, us = #[u] ∧ PR w O p u := by
  obtain ⟨l⟩ := us
  cases l with
  | nil => simp at h1
  | cons u l =>
    cases l with
    | nil => exact ⟨u, rfl, h2 0 p u rfl rfl⟩
    | cons _ _ => simp at h1
theorem fnsOk_of {P : Program} {fns : Fns} {T : BT FnE} {S : BT FK} {a b : Nat} (hty : fns = fun f => BT.get 20 T f) (hT : T = BT.mk (fnOf P) 1 0 S) (hq : BT.allAt (fun f k => fnOk P f k && match k with | .code _ => true | .bits => f == a | .frombits => f == b) 1 0 S = true) (hB : BitsAt P a b) : FnsOk P fns := by
  subst hty
  refine ⟨fun f F m h => ?_, fun f g h => ?_⟩
  · simp only [hT] at h
    obtain ⟨y, h1, h2⟩ := BT.get_mk _ _ _ _ _ _ _ _ hq h
    rw [Nat.one_mul, Nat.add_zero] at h1 h2
    simp only [Bool.and_eq_true] at h2
    cases y with
    | code m' =>
      simp only [fnOf, fnOk] at h1 h2
      cases hf : P.funcs[f]? with
      | none => rw [hf] at h1; cases h1
      | some F' =>
        rw [hf] at h1 h2
        cases h1
        simp only [Bool.and_eq_true, Bool.not_eq_true'] at h2
        exact ⟨rfl, h2.1.1, h2.1.2⟩
    | bits => cases h1
    | frombits => cases h1
  · simp only [hT] at h
    obtain ⟨y, h1, h2⟩ := BT.get_mk _ _ _ _ _ _ _ _ hq h
    rw [Nat.one_mul, Nat.add_zero] at h1 h2
    simp only [Bool.and_eq_true] at h2
    intro xs x hx w O us hl hargs
    cases y with
    | code m' =>
      simp only [fnOf] at h1
      split at h1
      · cases h1
      · simp only [FnE.ext.injEq] at h1
        subst h1
        cases hx
    | bits =>
      simp only [fnOf, FnE.ext.injEq] at h1
      subst h1
      obtain rfl : f = a := by simpa using h2.2
      simp only at hx
      split at hx
      · cases hx
        obtain ⟨u, rfl, hu⟩ := one_arg hl hargs
        cases hu
        exact ⟨_, hB.bits _ w, .int _ _⟩
      · cases hx
    | frombits =>
      simp only [fnOf, FnE.ext.injEq] at h1
      subst h1
      obtain rfl : f = b := by simpa using h2.2
      simp only at hx
      split at hx
      · cases hx
        obtain ⟨u, rfl, hu⟩ := one_arg hl hargs
        cases hu
        exact ⟨_, hB.from_ _ w, .flt _ _⟩
      · cases hx

/-- A run in a heap of its own, its answer frozen. -/
def runZ (run : Run) : Run := fun f args H =>
  match H with
  | [] => match run f args [] with
    | some (v, H', _) => match fzRes H' v with
      | some r => some (r, [], lg0)
      | none => none
    | none => none
  | _ => none
theorem runZ_ok {P : Program} {run : Run} (h : RunOk P run) : RunOk P (runZ run) := by
  intro f args H v H' lg hr w X ι us hH ha
  unfold runZ at hr
  split at hr
  · split at hr
    · rename_i v2 H2 lg2 hrun
      split at hr
      · rename_i r hz
        simp only [Option.some.injEq, Prod.mk.injEq] at hr
        obtain ⟨rfl, rfl, rfl⟩ := hr
        refine (h f args [] v2 H2 lg2 hrun w X ι us hH ha).mono ?_
        rintro e w' ⟨u, ι2, rfl, g1, g2, g3⟩
        have hι : ι = [] := by have := hH.len; simpa using this
        subst hι
        have hfz2 : Fz ι2 H2 (fun _ => True) (OX X [] []) := ⟨fun _ _ _ _ _ _ => trivial, fun id l b o _ h2 h3 _ h4 hb => by
          obtain ⟨B, h5, h6⟩ := h4
          exact hb.elim (own_nil b) (fun hX => g1.xo b ⟨id, l, B, o, h2, h5, h6, h3⟩ hX)⟩
        have g4 := fzRes_sound g1 hfz2 (fun b hb => hb.elim (fun h => (own_nil b h).elim) .inr) hz g2 (fun _ _ => trivial) (ι' := [])
        exact ⟨u, [], rfl, HR.nil w' X (fun b hb => Nat.lt_of_lt_of_le (hH.xlt b hb) g3.same.size), g4, ⟨fun b hb _ => g3.same.block b hb (own_nil b), g3.same.size, fun b hb => (own_nil b hb).elim⟩, g3.os, g3.tape, g3.output, Nat.le_refl _, fun _ _ _ => rfl⟩
      · cases hr
    · cases hr
  · cases hr
def runTab (tab : List (Nat × V)) : Run := fun f args H =>
  match args, H with
  | [], [] => go f tab
  | _, _ => none
where go (f : Nat) : List (Nat × V) → R1
  | [] => none
  | (g, v) :: r => if f = g then some (v, [], lg0) else go f r
theorem runTab_ok {P : Program} {run : Run} (h : RunOk P (runZ run)) {tab : List (Nat × V)} (ht : ∀ f v, (f, v) ∈ tab → runZ run f [] [] = some (v, [], lg0)) : RunOk P (runTab tab) ∧ RunLog (runTab tab) := by
  have key : ∀ f (l : List (Nat × V)) r, (∀ f v, (f, v) ∈ l → runZ run f [] [] = some (v, [], lg0)) → runTab.go f l = some r → runZ run f [] [] = some r := by
    intro f l
    induction l with
    | nil => intro r _ h; simp [runTab.go] at h
    | cons x l ih =>
      obtain ⟨g, v⟩ := x
      intro r hl hg
      simp only [runTab.go] at hg
      split at hg
      · rename_i e
        subst e
        cases hg
        exact hl _ _ (List.mem_cons_self ..)
      · exact ih r (fun f v hm => hl f v (List.mem_cons_of_mem _ hm)) hg
  refine ⟨fun f args H v H' lg hr => ?_, fun f args H v H' lg hr => ?_⟩
  · unfold runTab at hr
    split at hr
    · exact h f [] [] v H' lg (key f tab _ ht hr)
    · cases hr
  · unfold runTab at hr
    split at hr
    · have := key f tab _ ht hr
      unfold runZ at this
      simp only at this
      split at this
      · split at this
        · cases this
          exact LogOk.refl _ _
        · cases this
      · cases this
    · cases hr
/-- Code, with its calls run by what is known. -/
def acodeR (E : Env) (run : Run) : Nat → Code → St → RC
  | 0, _, _ => none
  | n + 1, c, s => acodeF E run (acodeR E run n) c s
theorem acodeR_sound {P : Program} {E : Env} (hT : TyOk P E.ty) (hF : FnsOk P E.fns) (hD : DrawOk P E) {run : Run} (hR : RunOk P run) (hL : RunLog run) : ∀ (n : Nat), CodeOk P (acodeR E run n) ∧ LoopOk P (acodeR E run n) n
  | 0 => ⟨fun c s s' ex h => by simp [acodeR] at h, fun c s s' ex h => by simp [acodeR] at h⟩
  | n + 1 => by
    obtain ⟨h1, h2⟩ := acodeR_sound hT hF hD hR hL n
    have e : acodeR E run (n + 1) = acodeF E run (acodeR E run n) := by
      funext c s
      rfl
    rw [e]
    exact ⟨code_sound hT hF hD h1 h2 hR hL, loop_sound hT hF hD h1 h2⟩
/-- A closed law: true, whatever the world is. -/
theorem closed_true {P : Program} {E : Env} {rec : Code → St → RC} (hR : RunOk P (acode.arun E rec)) {f : Nat} {H' : Heap} {lg : Lg} (h : acode.arun E rec f [] [] = some (.p (.bool true), H', lg)) (w : World) : Calls P f #[] w fun e w' => e = .returned (.bool true) ∧ Below w.heap.size w w' := by
  have h0 := HR.nil w (fun _ => False) (fun _ h => h.elim)
  refine (hR f [] [] _ H' lg h w (fun _ => False) [] #[] h0 ⟨rfl, by simp⟩).mono ?_
  rintro e w' ⟨u, ι', rfl, g1, g2, g3⟩
  have := pv_bool g2
  subst this
  exact ⟨rfl, g3.os, g3.tape, g3.output, g3.same.size, fun b hb => g3.same.block b hb (own_nil b)⟩
end Go.Ab
