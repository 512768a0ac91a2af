/- An evaluator over the abstract machine, for closed runs: by fuel, one task at a time. -/
import Derived.Test.YtonhkjkdmfaodaaGreatDoorALFast
set_option linter.unusedVariables false
set_option linter.unusedSimpArgs false
namespace Go.AL
open Go.RowKit
noncomputable section

/-! ### Temporaries as a tree -/
inductive VT where
  | nil
  | node (v : Value) (l r : VT)

noncomputable def VT.get (t : VT) : Nat → Value :=
  VT.rec (motive := fun _ => Nat → Value) (fun _ => undef) (fun v _ _ gl gr i => Bool.rec (motive := fun _ => Value) (Bool.rec (motive := fun _ => Value) (gr (Nat.sub (Nat.div i 2) 1)) (gl (Nat.div i 2)) (Nat.beq (Nat.mod i 2) 1)) v (Nat.beq i 0)) t
noncomputable def VT.set (f : Nat) : VT → Nat → Value → VT :=
  Nat.rec (motive := fun _ => VT → Nat → Value → VT) (fun t _ _ => t) (fun _ ih t i b =>
    VT.rec (motive := fun _ => VT)
      (Bool.rec (motive := fun _ => VT) (Bool.rec (motive := fun _ => VT) (.node undef .nil (ih .nil (Nat.sub (Nat.div i 2) 1) b)) (.node undef (ih .nil (Nat.div i 2) b) .nil) (Nat.beq (Nat.mod i 2) 1)) (.node b .nil .nil) (Nat.beq i 0))
      (fun v l r _ _ => Bool.rec (motive := fun _ => VT) (Bool.rec (motive := fun _ => VT) (.node v l (ih r (Nat.sub (Nat.div i 2) 1) b)) (.node v (ih l (Nat.div i 2) b) r) (Nat.beq (Nat.mod i 2) 1)) (.node b l r) (Nat.beq i 0)) t) f
theorem VT.get_nil (i : Nat) : VT.get .nil i = undef := rfl
theorem VT.get_node (v : Value) (l r : VT) (i : Nat) : VT.get (.node v l r) i = if i = 0 then v else if i % 2 = 1 then l.get (i / 2) else r.get (i / 2 - 1) := by
  show Bool.rec (motive := fun _ => Value) (Bool.rec (motive := fun _ => Value) (r.get (i / 2 - 1)) (l.get (i / 2)) (Nat.beq (i % 2) 1)) v (Nat.beq i 0) = _
  rw [brec_if, brec_if]
theorem VT.set_zero (t : VT) (i : Nat) (b : Value) : VT.set 0 t i b = t := rfl
theorem VT.set_nil (f : Nat) (i : Nat) (b : Value) : VT.set (f + 1) .nil i b = if i = 0 then .node b .nil .nil else if i % 2 = 1 then .node undef (VT.set f .nil (i / 2) b) .nil else .node undef .nil (VT.set f .nil (i / 2 - 1) b) := by
  show Bool.rec (motive := fun _ => VT) (Bool.rec (motive := fun _ => VT) (.node undef .nil (VT.set f .nil (i / 2 - 1) b)) (.node undef (VT.set f .nil (i / 2) b) .nil) (Nat.beq (i % 2) 1)) (.node b .nil .nil) (Nat.beq i 0) = _
  rw [brec_if, brec_if]
theorem VT.set_node (f : Nat) (v : Value) (l r : VT) (i : Nat) (b : Value) : VT.set (f + 1) (.node v l r) i b = if i = 0 then .node b l r else if i % 2 = 1 then .node v (l.set f (i / 2) b) r else .node v l (r.set f (i / 2 - 1) b) := by
  show Bool.rec (motive := fun _ => VT) (Bool.rec (motive := fun _ => VT) (.node v l (r.set f (i / 2 - 1) b)) (.node v (l.set f (i / 2) b) r) (Nat.beq (i % 2) 1)) (.node b l r) (Nat.beq i 0) = _
  rw [brec_if, brec_if]
def VT.getC : VT → Nat → Value
  | .nil, _ => undef
  | .node v l r, i => if i = 0 then v else if i % 2 = 1 then l.getC (i / 2) else r.getC (i / 2 - 1)
def VT.setC : Nat → VT → Nat → Value → VT
  | 0, t, _, _ => t
  | f + 1, .nil, i, b => if i = 0 then .node b .nil .nil else if i % 2 = 1 then .node undef (VT.setC f .nil (i / 2) b) .nil else .node undef .nil (VT.setC f .nil (i / 2 - 1) b)
  | f + 1, .node v l r, i, b => if i = 0 then .node b l r else if i % 2 = 1 then .node v (l.setC f (i / 2) b) r else .node v l (r.setC f (i / 2 - 1) b)
theorem VT.getC_eq : @VT.get = @VT.getC := by
  funext t
  induction t with
  | nil => rfl
  | node v l r hl hr => funext i; rw [VT.get_node, VT.getC, hl, hr]
theorem VT.setC_eq : @VT.set = @VT.setC := by
  funext f
  induction f with
  | zero => rfl
  | succ f ih =>
    funext t i b
    cases t with
    | nil => rw [VT.set_nil, VT.setC, ih]
    | node v l r => rw [VT.set_node, VT.setC, ih]

theorem VT.get_set (b : Value) : ∀ (f : Nat) (t : VT) (i j : Nat), i < f → (t.set f i b).get j = if j = i then b else t.get j := by
  intro f
  induction f with
  | zero => intro t i j h; omega
  | succ f ih =>
    intro t i j h
    have hnil : ∀ k, VT.get .nil k = undef := fun k => rfl
    cases t with
    | nil =>
      simp only [VT.set_nil, VT.set_node]
      by_cases hi : i = 0
      · subst hi
        simp only [if_true, VT.get_node]
        by_cases hj : j = 0
        · simp [hj, VT.get_nil]
        · simp [hj, VT.get_nil]
      · by_cases ho : i % 2 = 1
        · simp only [hi, if_false, ho, if_true, VT.get_node]
          by_cases hj : j = 0
          · subst hj; simp [Ne.symm hi, VT.get_nil]
          · by_cases hp : j % 2 = 1
            · simp only [hj, if_false, hp, if_true]
              rw [ih _ _ _ (by omega)]
              by_cases e : j = i
              · subst e; simp
              · simp [show ¬ j / 2 = i / 2 by omega, e, hnil]
            · simp [hj, hp, VT.get_nil, show ¬ j = i by intro e; subst e; exact hp ho]
        · simp only [hi, if_false, ho, VT.get_node]
          by_cases hj : j = 0
          · subst hj; simp [Ne.symm hi, VT.get_nil]
          · by_cases hp : j % 2 = 1
            · simp [hj, hp, VT.get_nil, show ¬ j = i by intro e; subst e; exact ho hp]
            · simp only [hj, if_false, hp]
              rw [ih _ _ _ (by omega)]
              by_cases e : j = i
              · subst e; simp
              · simp [show ¬ j / 2 - 1 = i / 2 - 1 by omega, e, hnil]
    | node v l r =>
      simp only [VT.set_nil, VT.set_node]
      by_cases hi : i = 0
      · subst hi
        simp only [if_true, VT.get_node]
        by_cases hj : j = 0
        · simp [hj, VT.get_nil]
        · simp [hj, VT.get_nil]
      · by_cases ho : i % 2 = 1
        · simp only [hi, if_false, ho, if_true, VT.get_node]
          by_cases hj : j = 0
          · subst hj; simp [Ne.symm hi, VT.get_nil]
          · by_cases hp : j % 2 = 1
            · simp only [hj, if_false, hp, if_true]
              rw [ih _ _ _ (by omega)]
              by_cases e : j = i
              · subst e; simp
              · simp [show ¬ j / 2 = i / 2 by omega, e]
            · simp [hj, hp, VT.get_nil, show ¬ j = i by intro e; subst e; exact hp ho]
        · simp only [hi, if_false, ho, VT.get_node]
          by_cases hj : j = 0
          · subst hj; simp [Ne.symm hi, VT.get_nil]
          · by_cases hp : j % 2 = 1
            · simp [hj, hp, VT.get_nil, show ¬ j = i by intro e; subst e; exact ho hp]
            · simp only [hj, if_false, hp]
              rw [ih _ _ _ (by omega)]
              by_cases e : j = i
              · subst e; simp
              · simp [show ¬ j / 2 - 1 = i / 2 - 1 by omega, e]

def VT.fn (t : VT) : Env := fun k => t.get k
def VT.put (t : VT) (d : Option Tmp) (v : Value) : VT := match d with | some d => t.set (d + 1) d v | none => t
theorem VT.fn_put (t : VT) (d : Option Tmp) (v : Value) : (t.put d v).fn = t.fn.put d v := by
  funext k
  cases d with
  | none => rfl
  | some d => simp only [VT.fn, VT.put, Env.put, VT.get_set v (d + 1) t d k (by omega)]
def VT.ofL : List Value → Nat → VT → VT
  | [], _, t => t
  | v :: r, k, t => VT.ofL r (k + 1) (t.set (k + 1) k v)
def VT.ofA (a : Array Value) : VT := VT.ofL a.toList 0 .nil
theorem VT.get_ofL : ∀ (l : List Value) (k : Nat) (t : VT) (j : Nat), (VT.ofL l k t).get j = if k ≤ j ∧ j < k + l.length then l.getD (j - k) undef else t.get j
  | [], k, t, j => by simp [VT.ofL]; intro h1 h2; omega
  | v :: r, k, t, j => by
    rw [VT.ofL, VT.get_ofL r, VT.get_set v (k + 1) t k j (by omega)]
    by_cases h : j = k
    · subst h; rw [if_neg (by omega), if_pos rfl, if_pos (by simp)]; simp
    · by_cases h2 : k + 1 ≤ j ∧ j < k + 1 + r.length
      · rw [if_pos h2, if_pos (by simp; omega)]
        obtain ⟨d, rfl⟩ : ∃ d, j = k + 1 + d := ⟨j - (k + 1), by omega⟩
        rw [show k + 1 + d - (k + 1) = d by omega, show k + 1 + d - k = d + 1 by omega]; rfl
      · rw [if_neg h2, if_neg h, if_neg (by simp; omega)]
theorem VT.fn_ofA (a : Array Value) : (VT.ofA a).fn = ofArgs a := by
  funext k
  simp only [VT.fn, VT.ofA, VT.get_ofL, ofArgs]
  by_cases h : k < a.size
  · simp [h, Array.getD]
  · simp [h, Array.getD, VT.get_nil]

/-! ### Regions that draw: what has to wait -/
def ancMask (ms : List Nat) (o : Oper) : Nat := o.after.toList.foldl (fun a e => if Region.binds .any e then (a ||| (1 <<< e.on)) ||| ms.getD e.on 0 else a) 0
def masksFrom : List Oper → List Nat → List Nat
  | [], ms => ms
  | o :: r, ms => masksFrom r (ms ++ [ancMask ms o])
def edgesOk : List Oper → Nat → Bool
  | [], _ => true
  | o :: r, k => o.after.toList.all (fun e => !Region.binds .any e || decide (e.on < k)) && edgesOk r (k + 1)
def unordAt (ms : List Nat) (k : Nat) : List Nat := (List.range k).filter fun j => !((ms.getD k 0).testBit j)
def apartAt (ops : Array Oper) (k : Nat) (u : List Nat) : Bool := u.all fun j => match ops[j]?, ops[k]? with | some oj, some ok => oj.apart ops ok | _, _ => false
def planOf (ops : Array Oper) (ms : List Nat) : Option (List (List Nat)) :=
  if edgesOk ops.toList 0 && Region.noSelect ops && (List.range ops.size).all (fun k => apartAt ops k (unordAt ms k)) then some ((List.range ops.size).map (unordAt ms)) else none
def plan (ops : Array Oper) : Option (List (List Nat)) := planOf ops (masksFrom ops.toList [])

/-- What an operation of such a region has done: a call sees all below n0 but 'rem'; another one sees 'vis'; from lo on it may write. -/
structure Rec where
  call : Bool
  vis : List Nat
  rem : List Nat
  lo : Nat
  n0 : Nat
  n1 : Nat
def visB (r : Rec) (i : Nat) : Bool := match r.call with | true => decide (i < r.n0) && !(r.rem.contains i) | false => r.vis.contains i
def wrB (r : Rec) (i : Nat) : Bool := visB r i && decide (r.lo ≤ i)
def pairB (a b : Rec) : Bool :=
  match a.call, b.call with
  | true, true => false
  | true, false => b.vis.all fun i => !(decide (a.n0 ≤ i) && decide (i < a.n1)) && !(wrB a i) && !(decide (b.lo ≤ i) && visB a i)
  | false, true => (List.range' a.n0 (a.n1 - a.n0)).all (fun i => b.rem.contains i) && a.vis.all (fun i => (decide (i < a.lo) || b.rem.contains i) && !(wrB b i))
  | false, false => b.vis.all (fun i => !(decide (a.n0 ≤ i) && decide (i < a.n1)) && !(wrB a i) && !(decide (b.lo ≤ i) && visB a i))
def pairs (recs : List Rec) (u : List Nat) (b : Rec) : Bool := u.all fun j => match recs[j]? with | some a => pairB a b | none => false
def remOf (recs : List Rec) (u : List Nat) : List Nat := u.flatMap fun j => match recs[j]? with
  | some a => (match a.call with | true => [] | false => List.range' a.n0 (a.n1 - a.n0) ++ a.vis.filter fun i => decide (a.lo ≤ i))
  | none => []
/-- Operations that look at no block. -/
def blind : Op → Bool
  | .move _ | .assign _ | .pick _ _ _ | .fieldAddr _ _ _ | .indexAddr _ _ _ | .nilCheck _ | .slice _ _ _ _ _ | .makeInterface _ _ | .makeFunc _ _ _ | .field _ _ _ | .index _ _ _ | .extract _ _ | .typeAssert _ _ _ _ | .build _ _ | .box _ _ | .buildSlice _ _ _ | .unOp _ _ _ => true
  | _ => false
/-- The blocks that an operation looks at. -/
def touch (o : Oper) (E : Operand → Value) (H : Heap) : List Nat :=
  (match blind o.op with | true => [] | false => o.op.operands.toList.flatMap fun x => match wblk (E x) with
    | some i => (match H.get i with | some (.mit (some m) _ _ _) => [i, m] | some _ => [i] | none => [])
    | none => []).filter fun i => (H.get i).isSome
def viewT (H : Heap) : List Nat → Tree → Tree
  | [], t => t
  | i :: r, t => viewT H r (t.set (i + 1) i (H.get i))
def view (H : Heap) (l : List Nat) : Heap := { tr := viewT H l .nil, hid := [] }
def wipe : List Nat → Heap → Heap
  | [], H => H
  | i :: r, H => wipe r (H.upd i none)
def copyTo (V : Heap) : List Nat → Heap → Heap
  | [], H => H
  | i :: r, H => copyTo V r (H.upd i (V.get i))

/-! ### Tables of the program -/
inductive FT where
  | nil
  | node (v : Option Func) (l r : FT)
noncomputable def FT.get (t : FT) : Nat → Option Func :=
  FT.rec (motive := fun _ => Nat → Option Func) (fun _ => none) (fun v _ _ gl gr i => Bool.rec (motive := fun _ => Option Func) (Bool.rec (motive := fun _ => Option Func) (gr (Nat.sub (Nat.div i 2) 1)) (gl (Nat.div i 2)) (Nat.beq (Nat.mod i 2) 1)) v (Nat.beq i 0)) t
/-- A function without a body. -/
inductive XF where
  | no
  | esc
  | mnz (e : TypeId)
  | fn (f : Array Value → Sem Value)
def XOk (P : Program) (g : FuncId) : XF → Prop
  | .no => True
  | .esc => ∃ fn, P.funcs[g]? = some fn ∧ fn.body = none ∧ (Extern.findNext fn).isNone = true ∧ (fn.name == "internal/abi.NoEscape") = true
  | .mnz e => ∃ fn t, P.funcs[g]? = some fn ∧ fn.body = none ∧ (Extern.findNext fn).isNone = true ∧ (fn.name == "internal/bytealg.MakeNoZero") = true ∧ fn.resultTypes[0]? = some t ∧ P.underlying t = some (.slice e)
  | .fn f => ∃ fn, P.funcs[g]? = some fn ∧ fn.body = none ∧ (Extern.findNext fn).isNone = true ∧ (fn.name == "internal/abi.NoEscape") = false ∧ Extern.find fn = some f
structure Tabs (P : Program) (G : Nat) (F : FuncId → Option Func) (X : FuncId → XF) : Prop where
  fn : ∀ g fn, F g = some fn → P.funcs[g]? = some fn
  bd : ∀ g fn, F g = some fn → ∃ c, fn.body = some c
  ok : ∀ g fn c, F g = some fn → fn.body = some c → codeOk G fn.ntmps c = true
  ext : ∀ g, XOk P g (X g)
/-- A call of a function without a body that makes nothing. -/
def xCall (P : Program) (x : XF) (args : Array Value) : Option Value :=
  match x with
  | .esc => (match args.toList with | [x] => some x | _ => none)
  | .fn e => if args.toList.all rigid then (match pv P (e args) with | some v => if rigid v then some v else none | none => none) else none
  | _ => none
def xMake (x : XF) (args : Array Value) (H : Heap) (n : Nat) : Out :=
  match x with
  | .mnz e => (match args.toList with
    | [.int .i64 k] => if 0 ≤ k ∧ k ≤ 1073741824 then some (.slice (some ⟨n, 0, none⟩) k.toNat 1, H.upd n (some (.cells [] e 1)), n + 1) else none
    | _ => none)
  | _ => none
/-- The heap, nothing hidden. -/
def norm (H : Heap) : Heap := ⟨H.tr, []⟩
theorem norm_eq {H : Heap} (h : H.hid = []) : norm H = H := by cases H; simp only at h; subst h; rfl

/-! ### The evaluator -/
structure R where
  x : XX
  v : Value
  E : VT
  ds : List Nat
  H : Heap
  n : Nat
  m : Nat

inductive Task where
  | code (top : Bool) (N : Nat) (c : Code) (E : VT) (ds : List Nat)
  | ops (N : Nat) (ops : Array Oper) (rest : List Oper) (E : VT) (ds : List Nat)
  | draw (ops : Array Oper) (us : List (List Nat)) (rest : List Oper) (recs : List Rec) (E : VT) (ds : List Nat)
  | call (f : FuncId) (args : Array Value)

abbrev Eval := Task → Heap → Nat → Nat → Option R

def minO (m : Nat) : Option Nat → Nat
  | none => m
  | some i => Nat.min m i

/-- The assignment of a round of a range over a function. -/
def asgOps (P : Program) (ops : Array Oper) : List Oper → VT → Heap → Nat → Nat → Option (VT × Heap × Nat × Nat)
  | [], E, H, n, m => some (E, H, n, m)
  | o :: r, E, H, n, m => match wantedE ops E.fn o with
    | false => none
    | true => match aOp P 0 o (ev E.fn) H n with
      | some (v, H', n') => asgOps P ops r (E.put o.dst v) H' n' (minO m (wrOf o (ev E.fn)))
      | none => none
def asgRun (P : Program) (c : Code) (E : VT) (H : Heap) (n m : Nat) : Option (VT × Heap × Nat × Nat) :=
  match c with
  | .skip => some (E, H, n, m)
  | .region _ ops false => asgOps P ops ops.toList E H n m
  | _ => none

section
variable (P : Program) (G : Nat) (F : FuncId → Option Func) (X : FuncId → XF) (rec : Eval)

def stepRange (N : Nat) (f : Operand) (ps : Array Tmp) (asg body : Code) (E : VT) (ds : List Nat) (H : Heap) (n m : Nat) : Option R :=
  match ev E.fn f with
  | .func (.func g) a b =>
    match F g with
    | some fn => match fn.body with
      | some _ =>
        match rec (.call g (a ++ #[.func (.yield (n + 1)) #[] #[]] ++ b)) (norm ((H.upd n (some .dfr)).upd (n + 1) (some (.loop (tmpsOf E.fn N) ps asg body .ready none)))) (n + 2) m with
        | some r => (match r.H.get (n + 1) with
          | some (.loop _ _ _ _ st pend) => (match st with
            | .busy => none
            | _ => match xxOf pend with
              | some x => some ⟨x, undef, E, n :: ds, norm (r.H.upd (n + 1) none), r.n, r.m⟩
              | none => none)
          | _ => none)
        | none => none
      | none => none
    | none => none
  | _ => none

def stepCode (top : Bool) (N : Nat) (c : Code) (E : VT) (ds : List Nat) (H : Heap) (n m : Nat) : Option R :=
  match c with
  | .skip => some ⟨.normal, undef, E, ds, H, n, m⟩
  | .label _ => some ⟨.normal, undef, E, ds, H, n, m⟩
  | .exit id => some ⟨.exit id, undef, E, ds, H, n, m⟩
  | .ret => some ⟨.ret, undef, E, ds, H, n, m⟩
  | .seq a b => match rec (.code top N a E ds) H n m with
    | some r => (match r.x with
      | .normal => rec (.code top N b r.E r.ds) r.H r.n r.m
      | _ => some r)
    | none => none
  | .cond c a b => match ev E.fn c with
    | .bool true => rec (.code top N a E ds) H n m
    | .bool false => rec (.code top N b E ds) H n m
    | _ => none
  | .block id b => match rec (.code top N b E ds) H n m with
    | some r => (match r.x with
      | .exit j => if j = id then some { r with x := .normal } else some r
      | _ => some r)
    | none => none
  | .loop b => match rec (.code top N b E ds) H n m with
    | some r => (match r.x with
      | .normal => rec (.code top N (.loop b) r.E r.ds) r.H r.n r.m
      | _ => some r)
    | none => none
  | .scope b => rec (.code top N b E ds) H n m
  | .region _ ops false => rec (.ops N ops ops.toList E ds) H n m
  | .region _ ops true => match plan ops with
    | some us => rec (.draw ops us ops.toList [] E ds) H n m
    | none => none
  | .rangeFunc f ps asg body => match top with
    | true => stepRange F rec N f ps asg body E ds H n m
    | false => none
  | _ => none

def stepYield (N : Nat) (ops : Array Oper) (o : Oper) (rest : List Oper) (args : Array Operand) (l : Nat) (E : VT) (ds : List Nat) (H : Heap) (n m : Nat) : Option R :=
  match H.get l with
  | some (.loop El ps asg body .ready pend) =>
    if args.size = ps.size ∧ codeOk G El.size asg = true ∧ codeOk G El.size body = true then
      match asgRun P asg (VT.ofA (setAll ps (args.map (ev E.fn)) El)) H n m with
      | some (E', H', n', m') =>
        match rec (.code false El.size body E' []) (norm (H'.upd l (some (.loop El ps asg body .busy pend)))) n' m' with
        | some r => rec (.ops N ops rest (E.put o.dst (.bool (jumpOf r.x).isNone)) ds) (norm (r.H.upd l (some (.loop El ps asg body (if (jumpOf r.x).isNone then .ready else .done) (jumpOf r.x))))) r.n (Nat.min r.m l)
        | none => none
      | none => none
    else none
  | _ => none

def nextOf (x : Value) (H : Heap) : Option (Value × Heap × Nat) :=
  match x with
  | .pointer (some ⟨i, 0, none⟩) => match H.get i with
    | some (.mit none _ _ _) => some (.tuple #[.bool false], H, i)
    | some (.mit (some m) since seen stepped) => match H.get m with
      | some (.map es clock) => if (seen.isEmpty || es.isEmpty || !(es.all fun e => decide (stepped ≤ e.born))) = true then
          (match cands es since seen with
          | [none] => some (.tuple #[.bool false], H, i)
          | [some e] => some (.tuple #[.bool true, e.key, e.val], H.upd i (some (.mit (some m) since (seen ++ [e.born]) clock)), i)
          | _ => none) else none
      | _ => none
    | _ => none
  | _ => none

def stepOp (N : Nat) (ops : Array Oper) (o : Oper) (rest : List Oper) (E : VT) (ds : List Nat) (H : Heap) (n m : Nat) : Option R :=
  match wantedE ops E.fn o with
  | false => rec (.ops N ops rest (E.put o.dst undef) ds) H n m
  | true => match o.op with
    | .call { callee := .value f, args := args, argTypes := _ } => match ev E.fn f with
      | .func (.func g) a b => match F g with
        | some fn => match fn.body with
          | some _ => match rec (.call g (a ++ args.map (ev E.fn) ++ b)) H n m with
            | some r => rec (.ops N ops rest (E.put o.dst r.v) ds) r.H r.n r.m
            | none => none
          | none => none
        | none => match xCall P (X g) (a ++ args.map (ev E.fn) ++ b) with
          | some v => rec (.ops N ops rest (E.put o.dst v) ds) H n m
          | none => match xMake (X g) (a ++ args.map (ev E.fn) ++ b) H n with
            | some (v, H', n') => rec (.ops N ops rest (E.put o.dst v) ds) (norm H') n' m
            | none => none
      | .func (.yield l) a b => (match a.toList, b.toList with
        | [], [] => stepYield P G rec N ops o rest args l E ds H n m
        | _, _ => none)
      | _ => none
    | .next x false => match nextOf (ev E.fn x) H with
      | some (v, H', i) => rec (.ops N ops rest (E.put o.dst v) ds) (norm H') n (Nat.min m i)
      | none => none
    | _ => match eOp P o (ev E.fn) H n with
      | some (v, H', n') => rec (.ops N ops rest (E.put o.dst v) ds) (norm H') n' (minO m (wrOf o (ev E.fn)))
      | none => none

def loOf (n : Nat) : Option Nat → Nat
  | none => n
  | some i => i
def backOf (n n' lo : Nat) (vis : List Nat) : List Nat := vis.filter (fun i => decide (lo ≤ i)) ++ (if n' = n then [] else [n])

def stepDraw (ops : Array Oper) (u : List Nat) (us : List (List Nat)) (o : Oper) (rest : List Oper) (recs : List Rec) (E : VT) (ds : List Nat) (H : Heap) (n m : Nat) : Option R :=
  match wantedE ops E.fn o with
  | false => rec (.draw ops us rest (recs ++ [⟨false, [], [], n, n, n⟩]) (E.put o.dst undef) ds) H n m
  | true => match o.op with
    | .call { callee := .value f, args := args, argTypes := _ } => match ev E.fn f with
      | .func (.func g) a b => match F g with
        | some fn => match fn.body with
          | some _ => match rec (.call g (a ++ args.map (ev E.fn) ++ b)) (norm (wipe (remOf recs u) H)) n n with
            | some r => (match pairs recs u ⟨true, [], remOf recs u, r.m, n, r.n⟩ with
              | true => rec (.draw ops us rest (recs ++ [⟨true, [], remOf recs u, r.m, n, r.n⟩]) (E.put o.dst r.v) ds) (norm (copyTo H (remOf recs u) r.H)) r.n (Nat.min m r.m)
              | false => none)
            | none => none
          | none => none
        | none => match xCall P (X g) (a ++ args.map (ev E.fn) ++ b) with
          | some v => rec (.draw ops us rest (recs ++ [⟨false, [], [], n, n, n⟩]) (E.put o.dst v) ds) H n m
          | none => match xMake (X g) (a ++ args.map (ev E.fn) ++ b) ⟨.nil, []⟩ n with
            | some (v, V, n') => (match pairs recs u ⟨false, [], [], n, n, n'⟩ with
              | true => rec (.draw ops us rest (recs ++ [⟨false, [], [], n, n, n'⟩]) (E.put o.dst v) ds) (norm (copyTo V [n] H)) n' m
              | false => none)
            | none => none
      | _ => none
    | _ => match eOp P o (ev E.fn) (view H (touch o (ev E.fn) H)) n with
      | some (v, V, n') => (match pairs recs u ⟨false, touch o (ev E.fn) H, [], loOf n (wrOf o (ev E.fn)), n, n'⟩ with
        | true => rec (.draw ops us rest (recs ++ [⟨false, touch o (ev E.fn) H, [], loOf n (wrOf o (ev E.fn)), n, n'⟩]) (E.put o.dst v) ds)
            (norm (copyTo V (backOf n n' (loOf n (wrOf o (ev E.fn))) (touch o (ev E.fn) H)) H)) n' (minO m (wrOf o (ev E.fn)))
        | false => none)
      | none => none

def minL (m : Nat) : List Nat → Nat
  | [] => m
  | i :: r => minL (Nat.min m i) r

def stepCall (f : FuncId) (args : Array Value) (H : Heap) (n m : Nat) : Option R :=
  match F f with
  | some fn => match fn.body with
    | some c => match Nat.ble args.size fn.ntmps with
      | true =>
          (match rec (.code true fn.ntmps c (VT.ofA args) []) H n m with
          | some r => (match r.x with
            | .exit _ => none
            | _ => match dfrs r.H r.ds with
              | true => (match resL P r.E.fn (killAll r.ds r.H) fn.results.toList with
                | some vs => some ⟨.normal, retV vs, .nil, [], killAll r.ds r.H, r.n, minL r.m r.ds⟩
                | none => none)
              | false => none)
          | none => none)
      | false => none
    | none => none
  | none => none

def step : Eval := fun t H n m =>
  match t with
  | .code top N c E ds => stepCode F rec top N c E ds H n m
  | .ops N ops rest E ds => match rest with
    | [] => some ⟨.normal, undef, E, ds, H, n, m⟩
    | o :: rest => stepOp P G F X rec N ops o rest E ds H n m
  | .draw ops us rest recs E ds => match rest, us with
    | [], _ => some ⟨.normal, undef, E, ds, H, n, m⟩
    | o :: rest, u :: us => stepDraw P F X rec ops u us o rest recs E ds H n m
    | _, [] => none
  | .call f args => stepCall P F rec f args H n m
end

def eval (P : Program) (G : Nat) (F : FuncId → Option Func) (X : FuncId → XF) : Nat → Eval
  | 0 => fun _ _ _ _ => none
  | k + 1 => step P G F X (eval P G F X k)

end
end Go.AL
