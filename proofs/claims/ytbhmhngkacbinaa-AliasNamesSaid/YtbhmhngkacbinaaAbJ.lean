/- The interpreter's operations that only reckon, against the model's. Conditions: the table of types. -/
import Derived.Test.YtbhmhngkacbinaaAbI
namespace Go.Ab
open Go.RowKit
set_option autoImplicit false
set_option linter.unusedSimpArgs false

theorem toList_loop (s : ByteArray) : ∀ (d i : Nat) (r : List UInt8), s.size - i = d → ByteArray.toList.loop s i r = r.reverse ++ s.data.toList.drop i := by
  have hsz : s.data.toList.length = s.size := by rw [Array.length_toList]; rfl
  intro d
  induction d with
  | zero =>
    intro i r h
    unfold ByteArray.toList.loop
    rw [if_neg (by omega), List.drop_of_length_le (by omega), List.append_nil]
  | succ d ih =>
    intro i r h
    unfold ByteArray.toList.loop
    have hi : i < s.size := by omega
    have hi' : i < s.data.toList.length := by omega
    rw [if_pos hi, ih (i + 1) _ (by omega), List.drop_eq_getElem_cons hi', List.reverse_cons, List.append_assoc]
    have : s.get! i = s.data.toList[i] := by
      have h2 : i < s.data.size := hi
      show s.data[i]! = _
      rw [getElem!_pos s.data i h2, Array.getElem_toList]
    rw [this]; rfl
theorem toList_data (s : ByteArray) : s.toList = s.data.toList := by
  unfold ByteArray.toList
  rw [toList_loop s s.size 0 [] (by simp)]
  rfl
theorem less_eq : ∀ (a b : List UInt8), Op.bytesLess a b = bytesLess a b
  | _, [] => by cases ‹List UInt8› <;> rfl
  | [], _ :: _ => rfl
  | a :: x, b :: y => by simp only [Op.bytesLess, bytesLess, less_eq x y]

section
variable {P : Program} {w : World} {O : Nat → Prop} {ι : List Loc}
theorem pv_int {k : IntKind} {n : Int} {u : Value} (h : VR w O ι (.p (.int k n)) u) : u = .int k n := by cases h with | p _ _ h => cases h; rfl
theorem pv_bool {b : Bool} {u : Value} (h : VR w O ι (.p (.bool b)) u) : u = .bool b := by cases h with | p _ _ h => cases h; rfl
theorem pv_flt {k : FloatKind} {b : Nat} {u : Value} (h : VR w O ι (.p (.flt k b)) u) : u = .float k b := by cases h with | p _ _ h => cases h; rfl
theorem pv_str {l : List UInt8} {u : Value} (h : VR w O ι (.p (.str l)) u) : ∃ s : ByteArray, u = .string s ∧ s.data.toList = l := by cases h with | p _ _ h => cases h; exact ⟨_, rfl, rfl⟩
theorem pr_int (k : IntKind) (n : Int) : VR w O ι (.p (.int k n)) (.int k n) := .p _ _ (.int k n)
theorem pr_bool (b : Bool) : VR w O ι (.p (.bool b)) (.bool b) := .p _ _ (.bool b)
theorem pr_str (s : ByteArray) {l : List UInt8} (h : s.data.toList = l) : VR w O ι (.p (.str l)) (.string s) := by subst h; exact .p _ _ (.str s)
theorem data_append (a b : ByteArray) : (a ++ b).data.toList = a.data.toList ++ b.data.toList := by
  simp [ByteArray.data_append]

theorem acmp_sound {op : BinOp} {a b : Int} {x : PV} (h : acmp op a b = some x) : ∃ u, (Op.intCmp op a b).run P w = .ok u w ∧ PR w O x u := by
  cases op <;> simp only [acmp, Option.some.injEq, reduceCtorEq] at h <;> subst h <;> exact ⟨_, rfl, .bool _⟩
theorem aint_sound {op : BinOp} {k : IntKind} {a b : Int} {x : PV} (h : aint op k a b = some x) (t : TypeId) (hs : op ≠ .shl) (hs' : op ≠ .shr) : ∃ u, (binOp op t (.int k a) (.int k b)).run P w = .ok u w ∧ PR w O x u := by
  cases op <;> simp only [aint, Option.some.injEq, reduceCtorEq] at h <;> first
    | exact absurd rfl hs
    | exact absurd rfl hs'
    | (subst h; refine ⟨_, ?_, .int _ _⟩; simp only [binOp, ne_eq, not_true_eq_false, if_false]; rfl)
    | (split at h
       · cases h
       · rename_i hb
         cases h
         refine ⟨_, ?_, .int _ _⟩
         simp only [binOp, ne_eq, not_true_eq_false, if_false, Op.intDiv, hb]
         rfl)
    | (obtain ⟨u, h1, h2⟩ := acmp_sound (P := P) (w := w) (O := O) h
       refine ⟨u, ?_, h2⟩
       simp only [binOp, ne_eq, not_true_eq_false, if_false]
       exact h1)
theorem ashift_sound {op : BinOp} {k k' : IntKind} {a b : Int} {x : PV} (h : ashift op k a b = some x) (t : TypeId) : ∃ u, (binOp op t (.int k a) (.int k' b)).run P w = .ok u w ∧ PR w O x u := by
  unfold ashift at h
  split at h
  · cases h
  · rename_i hb
    cases op <;> simp only [Option.some.injEq, reduceCtorEq] at h <;> subst h <;> refine ⟨_, ?_, .int _ _⟩ <;> simp only [binOp, Op.shift, hb, if_false] <;> rfl
theorem astr_sound {op : BinOp} {a b : ByteArray} {x : PV} (h : astr op a.data.toList b.data.toList = some x) (t : TypeId) : ∃ u, (binOp op t (.string a) (.string b)).run P w = .ok u w ∧ PR w O x u := by
  have ha : a.data.toList.length = a.size := by rw [Array.length_toList]; rfl
  have hb : b.data.toList.length = b.size := by rw [Array.length_toList]; rfl
  cases op <;> simp only [astr, Option.some.injEq, reduceCtorEq] at h
  case add =>
    split at h
    · rename_i hc
      cases h
      refine ⟨.string (a ++ b), ?_, ?_⟩
      · have : ¬ (((a.size + b.size : Nat) : Int) > IntKind.i64.max) := by
          have : IntKind.i64.max = 9223372036854775807 := by decide
          omega
        simp only [binOp, Op.stringOp, this, if_false]
        rfl
      · have := PR.str (w := w) (O := O) (a ++ b)
        rwa [data_append] at this
    · cases h
  all_goals (subst h; refine ⟨_, ?_, .bool _⟩; simp only [binOp, Op.stringOp, toList_data, less_eq]; rfl)
theorem aflt_sound {op : BinOp} {k : FloatKind} {a b : Nat} {x : PV} (h : aflt op k a b = some x) (t : TypeId) : ∃ u, (binOp op t (.float k a) (.float k b)).run P w = .ok u w ∧ PR w O x u := by
  cases op <;> simp only [aflt, Option.some.injEq, reduceCtorEq, Option.map_eq_some_iff] at h <;> first
    | (subst h; exact ⟨_, by simp only [binOp, ne_eq, not_true_eq_false, if_false, Op.floatCmp]; rfl, .bool _⟩)
    | (obtain ⟨r, hr, rfl⟩ := h
       refine ⟨.float k r, ?_, .flt _ _⟩
       simp only [binOp, ne_eq, not_true_eq_false, if_false, Op.floatArith, Sem.run_bind, Sem.run_pure, Result.andThen_ok, hr])
/-- What nil is, and what it is not. -/
def NilAs : NK → Bool → Value → Prop
  | .ptr, true, u => u = .pointer none
  | .ptr, false, u => ∃ a, u = .pointer (some a)
  | .sl, true, u => u = .slice none 0 0
  | .sl, false, u => ∃ a l c, u = .slice (some a) l c
  | .fn, true, u => u = .nilFunc
  | .fn, false, u => ∃ f g c, u = .func f g c
  | .ifc, true, u => u = .nilIface
  | .ifc, false, u => ∃ t v, u = .iface t v
theorem nilK_sound {x : V} {u : Value} {k : NK} {b : Bool} (h : VR w O ι x u) (hn : nilK x = some (k, b)) : NilAs k b u := by
  have go : ∀ {k' : NK} {b' : Bool}, some (k', b') = some (k, b) → NilAs k' b' u → NilAs k b u := by rintro k' b' h1 h2; cases h1; exact h2
  cases x with
  | p x =>
    cases h with
    | p _ _ h =>
      cases h with
      | nilp => exact go hn rfl
      | nils => exact go hn rfl
      | nilfn => exact go hn rfl
      | nilif => exact go hn rfl
      | pp => exact go hn ⟨_, rfl⟩
      | fn => exact go hn ⟨_, _, _, rfl⟩
      | ifc => exact go hn ⟨_, _, rfl⟩
      | slNil => simp [nilK] at hn
      | sl k xs b' o cap =>
        cases xs with
        | nil => simp [nilK] at hn
        | cons a r => exact go hn ⟨_, _, _, rfl⟩
      | _ => simp [nilK] at hn
  | lp => cases h; exact go hn ⟨_, rfl⟩
  | fn => cases h; exact go hn ⟨_, _, _, rfl⟩
  | _ => simp [nilK] at hn
end
section
variable {P : Program} {ty : Ty} (hT : TyOk P ty) {t : Nat} {ti : TI} (ht : ty t = some ti) {w : World} {O : Nat → Prop} {ι : List Loc}
include hT ht
theorem aeq_sound {kc : Bool} {x y : V} {ux uy : Value} (hx : VR w O ι x ux) (hy : VR w O ι y uy) {b : Bool} (h : aeqNil kc ti x y = some b) : (Op.equal t ux uy).run P w = .ok b w ∧ ((ux = .nilIface ∧ uy = .nilIface) → kc = true) ∧ (∀ c d, ¬ (ux = .agg c ∧ uy = .agg d)) ∧ binOp .eql t ux uy = (do pure (.bool (← Op.equal t ux uy))) ∧ binOp .neq t ux uy = (do pure (.bool (!(← Op.equal t ux uy)))) := by
  have hund := run_und (P := P) hT ht (w := w)
  have e : Op.equal t ux uy = Op.equalIn (9999 + 1) t ux uy := rfl
  unfold aeqNil at h
  split at h
  all_goals first | (cases h; done) | skip
  all_goals
    have hd := ‹ti.d = _›
    have n1 := nilK_sound hx ‹nilK x = _›
    have n2 := nilK_sound hy ‹nilK y = _›
    rw [e, Op.equalIn, Sem.run_bind, hund, Result.andThen_ok, hd]
  case h_1 =>
    cases h
    obtain rfl := n1
    cases b with
    | true => obtain rfl := n2; exact ⟨rfl, by simp, by simp, rfl, rfl⟩
    | false => obtain ⟨a, rfl⟩ := n2; exact ⟨rfl, by simp, by simp, rfl, rfl⟩
  case h_2 =>
    cases h
    obtain ⟨a, rfl⟩ := n1
    obtain rfl := n2
    exact ⟨rfl, by simp, by simp, rfl, rfl⟩
  case h_3 =>
    cases h
    obtain rfl := n1
    cases b with
    | true => obtain rfl := n2; exact ⟨rfl, by simp, by simp, rfl, rfl⟩
    | false => obtain ⟨a, l, c, rfl⟩ := n2; exact ⟨rfl, by simp, by simp, rfl, rfl⟩
  case h_4 =>
    cases h
    obtain ⟨a, l, c, rfl⟩ := n1
    obtain rfl := n2
    exact ⟨rfl, by simp, by simp, rfl, rfl⟩
  case h_5 =>
    cases h
    obtain rfl := n1
    cases b with
    | true => obtain rfl := n2; exact ⟨rfl, by simp, by simp, rfl, rfl⟩
    | false => obtain ⟨a, l, c, rfl⟩ := n2; exact ⟨rfl, by simp, by simp, rfl, rfl⟩
  case h_6 =>
    cases h
    obtain ⟨a, l, c, rfl⟩ := n1
    obtain rfl := n2
    exact ⟨rfl, by simp, by simp, rfl, rfl⟩
  case h_7 =>
    split at h
    · rename_i hk
      cases h
      obtain rfl := n1
      obtain rfl := n2
      exact ⟨rfl, fun _ => hk, by simp, rfl, rfl⟩
    · cases h
  case h_8 =>
    cases h
    obtain rfl := n1
    obtain ⟨a, l, rfl⟩ := n2
    exact ⟨rfl, by simp, by simp, rfl, rfl⟩
  case h_9 =>
    cases h
    obtain ⟨a, l, rfl⟩ := n1
    obtain rfl := n2
    exact ⟨rfl, by simp, by simp, rfl, rfl⟩
/-- The operation, with its guard. -/
theorem abin_sound {kc : Bool} {op : BinOp} {xo yo : Operand} (hkc : kc = (isConstO xo || isConstO yo)) {x y : V} {ux uy : Value} (hx : VR w O ι x ux) (hy : VR w O ι y uy) {v : V} (h : abin kc ti op x y = some v) :
    ∃ u, (do eqGuard op t xo yo ux uy; binOp op t ux uy : Sem Value).run P w = .ok u w ∧ VR w O ι v u := by
  have guard : ((ux = .nilIface ∧ uy = .nilIface) → kc = true) → (∀ c d, ¬ (ux = .agg c ∧ uy = .agg d)) → (eqGuard op t xo yo ux uy).run P w = .ok () w := by
    intro h1 h2
    unfold eqGuard
    by_cases ho : (!(match op with | .eql => true | .neq => true | _ => false)) = true
    · cases op <;> simp at ho <;> rfl
    · cases op <;> simp at ho <;> (cases ux <;> cases uy <;> first
        | rfl
        | (exact absurd ⟨rfl, rfl⟩ (h2 _ _))
        | (have := h1 ⟨rfl, rfl⟩
           rw [hkc] at this
           cases xo <;> cases yo <;> simp [isConstO] at this <;> rfl))
  have fin : ∀ {u : Value}, ((ux = .nilIface ∧ uy = .nilIface) → kc = true) → (∀ c d, ¬ (ux = .agg c ∧ uy = .agg d)) → (binOp op t ux uy).run P w = .ok u w → VR w O ι v u → ∃ u, (do eqGuard op t xo yo ux uy; binOp op t ux uy : Sem Value).run P w = .ok u w ∧ VR w O ι v u := by
    intro u h1 h2 h3 h4
    exact ⟨u, by rw [Sem.run_bind, guard h1 h2, Result.andThen_ok, h3], h4⟩
  unfold abin at h
  split at h
  · rename_i k a k' b
    obtain rfl := pv_int hx
    obtain rfl := pv_int hy
    split at h
    · simp only [Option.map_eq_some_iff] at h
      obtain ⟨z, hz, rfl⟩ := h
      obtain ⟨u, h1, h2⟩ := ashift_sound (P := P) (w := w) (O := O) (k' := k') hz t
      exact fin (by simp) (by simp) h1 (.p _ _ h2)
    · simp only [Option.map_eq_some_iff] at h
      obtain ⟨z, hz, rfl⟩ := h
      obtain ⟨u, h1, h2⟩ := ashift_sound (P := P) (w := w) (O := O) (k' := k') hz t
      exact fin (by simp) (by simp) h1 (.p _ _ h2)
    · rename_i o1 o2
      split at h
      · rename_i hk
        subst hk
        simp only [Option.map_eq_some_iff] at h
        obtain ⟨z, hz, rfl⟩ := h
        obtain ⟨u, h1, h2⟩ := aint_sound (P := P) (w := w) (O := O) hz t (by rintro rfl; exact o1 rfl) (by rintro rfl; exact o2 rfl)
        exact fin (by simp) (by simp) h1 (.p _ _ h2)
      · cases h
  · obtain ⟨a, rfl, rfl⟩ := pv_str hx
    obtain ⟨b, rfl, rfl⟩ := pv_str hy
    simp only [Option.map_eq_some_iff] at h
    obtain ⟨z, hz, rfl⟩ := h
    obtain ⟨u, h1, h2⟩ := astr_sound (P := P) (w := w) (O := O) hz t
    exact fin (by simp) (by simp) h1 (.p _ _ h2)
  · obtain rfl := pv_flt hx
    obtain rfl := pv_flt hy
    split at h
    · rename_i hk
      subst hk
      simp only [Option.map_eq_some_iff] at h
      obtain ⟨z, hz, rfl⟩ := h
      obtain ⟨u, h1, h2⟩ := aflt_sound (P := P) (w := w) (O := O) hz t
      exact fin (by simp) (by simp) h1 (.p _ _ h2)
    · cases h
  · obtain rfl := pv_bool hx
    obtain rfl := pv_bool hy
    split at h
    · rename_i a b _ _ hd
      cases h
      refine fin (u := .bool (a == b)) (by simp) (by simp) ?_ (pr_bool _)
      show (do pure (.bool (← Op.equalIn (9999 + 1) t (.bool a) (.bool b))) : Sem Value).run P w = _
      rw [Sem.run_bind, Op.equalIn, Sem.run_bind, run_und hT ht, Result.andThen_ok, hd]
      rfl
    · rename_i a b _ _ hd
      cases h
      refine fin (u := .bool (!(a == b))) (by simp) (by simp) ?_ (pr_bool _)
      show (do pure (.bool (!(← Op.equalIn (9999 + 1) t (.bool a) (.bool b)))) : Sem Value).run P w = _
      rw [Sem.run_bind, Op.equalIn, Sem.run_bind, run_und hT ht, Result.andThen_ok, hd]
      rfl
    · cases h
  · split at h
    · simp only [Option.map_eq_some_iff] at h
      obtain ⟨b, hb, rfl⟩ := h
      obtain ⟨g1, g2, g3, g4, _⟩ := aeq_sound hT ht hx hy hb
      refine fin g2 g3 ?_ (pr_bool b)
      rw [g4, Sem.run_bind, g1]; rfl
    · simp only [Option.map_eq_some_iff] at h
      obtain ⟨b, hb, rfl⟩ := h
      obtain ⟨g1, g2, g3, _, g4⟩ := aeq_sound hT ht hx hy hb
      refine fin g2 g3 ?_ (pr_bool (!b))
      rw [g4, Sem.run_bind, g1]; rfl
    · cases h
end
section
variable {P : Program} {w : World} {O : Nat → Prop} {ι : List Loc}
theorem aun_sound {op : UnOp} {x v : V} {ux : Value} (hx : VR w O ι x ux) (h : aun op x = some v) : ∃ u, (Op.unary op ux).run P w = .ok u w ∧ VR w O ι v u := by
  unfold aun at h
  split at h
  · cases h; obtain rfl := pv_bool hx; exact ⟨_, rfl, pr_bool _⟩
  · cases h; obtain rfl := pv_int hx; exact ⟨_, rfl, pr_int _ _⟩
  · cases h; obtain rfl := pv_int hx; exact ⟨_, rfl, pr_int _ _⟩
  · cases h; obtain rfl := pv_flt hx; exact ⟨_, rfl, .p _ _ (.flt _ _)⟩
  · cases h
end
section
variable {P : Program} {ty : Ty} (hT : TyOk P ty) {s t : Nat} {si ti : TI} (hs : ty s = some si) (ht : ty t = some ti) {w : World} {O : Nat → Prop} {ι : List Loc}
include hT hs ht
theorem aconv_sound {x v : V} {ux : Value} (hx : VR w O ι x ux) (h : aconv ti x = some v) : ∃ u, (convert s t ux).run P w = .ok u w ∧ VR w O ι v u := by
  have st : ∀ (u : Value) (c : Sem Value), (∀ d : TypeDesc, (match d, ti.d, u with
      | _, .int k, .int _ n => Conv.intToInt k n
      | _, .float k, .int _ n => Conv.intToFloat k n
      | _, .int k, .float s b => Conv.floatToInt s b k
      | _, .float k, .float s b => Conv.floatToFloat s b k
      | _, .complex k, .complex s a b => Conv.complexToComplex s a b k
      | _, .string, .int _ n => Conv.intToString n
      | _, .string, .string _ => pure u
      | _, .slice e, .string s => do
        match ← underlying e with
        | .int .u8 => Conv.stringToBytes e s
        | .int .i32 => Conv.stringToRunes e s
        | _ => stuck "Convert: string to a slice of what?"
      | .slice _, .slice e, .slice (some a) _ _ => do
        match s == t, ← underlying e with
        | true, .int .u8 => do markStringish a; pure u
        | _, _ => unsupported (.noEntry "convert/other")
      | .slice e, .string, x => do
        match ← underlying e with
        | .int .u8 => Conv.bytesToString x
        | .int .i32 => Conv.runesToString x
        | _ => stuck "Convert: a slice of what to string?"
      | .unsafePointer, _, x | _, .unsafePointer, x => Conv.unsafePointer s t x
      | .int _, _, .pointer (some _) => unsupported .addressObserved
      | _, _, _ => unsupported (.noEntry "convert/other") : Sem Value) = c) → (convert s t u).run P w = c.run P w := by
    intro u c hc
    rw [← hc si.d]
    unfold convert
    rw [Sem.run_bind, run_und hT hs, Result.andThen_ok, Sem.run_bind, run_und hT ht, Result.andThen_ok]
    rfl
  unfold aconv at h
  split at h
  · rename_i hd
    cases h; obtain rfl := pv_int hx
    exact ⟨_, by rw [st _ _ (fun d => by rw [hd])]; rfl, pr_int _ _⟩
  · rename_i hd
    cases h; obtain rfl := pv_int hx
    exact ⟨_, by rw [st _ _ (fun d => by rw [hd])]; rfl, .p _ _ (.flt _ _)⟩
  · rename_i k s' b hd
    obtain rfl := pv_flt hx
    split at h
    · rename_i n hn
      split at h
      · rename_i hb
        cases h
        exact ⟨_, by rw [st _ _ (fun d => by rw [hd])]; simp only [Conv.floatToInt, hn, hb, and_self, if_true]; rfl, pr_int _ _⟩
      · cases h
    · cases h
  · rename_i k s' b hd
    obtain rfl := pv_flt hx
    split at h
    · rename_i e
      cases h
      exact ⟨_, by rw [st _ _ (fun d => by rw [hd])]; simp only [Conv.floatToFloat, e, if_true]; rfl, .p _ _ (.flt _ _)⟩
    · rename_i e
      split at h
      · cases h
      · rename_i hdec
        cases h
        exact ⟨_, by rw [st _ _ (fun d => by rw [hd])]; simp only [Conv.floatToFloat, e, if_false, hdec]; rfl, .p _ _ (.flt _ _)⟩
      · rename_i hdec
        split at h
        · cases h
        · rename_i hinf
          cases h
          exact ⟨_, by rw [st _ _ (fun d => by rw [hd])]; simp only [Conv.floatToFloat, e, if_false, hdec, hinf]; rfl, .p _ _ (.flt _ _)⟩
  · rename_i hd
    cases h
    obtain ⟨a, rfl, rfl⟩ := pv_str hx
    exact ⟨_, by rw [st _ _ (fun d => by rw [hd])]; rfl, pr_str a rfl⟩
  · cases h
end
end Go.Ab
