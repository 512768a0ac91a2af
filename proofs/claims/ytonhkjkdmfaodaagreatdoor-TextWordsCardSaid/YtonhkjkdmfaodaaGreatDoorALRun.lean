/- What a piece of code does on the abstract machine: the least predicate closed under these rules (so that it ends). -/
import Derived.Test.YtonhkjkdmfaodaaGreatDoorALOps13
import Derived.RangeFuncLeaves
import Derived.RangeFuncRecord
import Derived.RangeFuncCalls
import Derived.OrdersIn
import Derived.TacticsIn
import Derived.Test.YtonhkjkdmfaodaaGreatDoorALScope
set_option linter.unusedVariables false
set_option linter.unusedSimpArgs false
namespace Go.AL
open Go.RowKit
noncomputable section

abbrev Env := Nat → Value
def Env.put (E : Env) (d : Option Tmp) (v : Value) : Env := match d with | some d => fun k => if k = d then v else E k | none => E
def ev (E : Env) : Operand → Value
  | .tmp t => E t
  | .const v => v
  | .global g => ptr g 0
  | .func f => .func (.func f) #[] #[]
def yieldedE (ops : Array Oper) (E : Env) (j : Nat) : Option Bool :=
  match (ops[j]?).bind (·.dst) with
  | some d => match E d with | .bool b => some b | _ => none
  | none => none
def wantedE (ops : Array Oper) (E : Env) (o : Oper) : Bool := Region.wanted o (yieldedE ops E)

inductive XX where
  | normal
  | exit (id : Nat)
  | ret

abbrev Post := XX → Env → List Nat → Heap → Nat → Prop

def ofArgs (args : Array Value) : Env := fun k => args.getD k undef

def opndOk (G : Nat) : Operand → Bool
  | .const v => rigid v
  | .global g => decide (g < G)
  | _ => true
def operOk (G N : Nat) (o : Oper) : Bool := o.op.operands.toList.all (opndOk G) && (match o.dst with | some d => decide (d < N) | none => true)
def codeOk (G N : Nat) : Code → Bool
  | .region _ ops _ => ops.toList.all (operOk G N)
  | .seq a b => codeOk G N a && codeOk G N b
  | .cond c a b => opndOk G c && codeOk G N a && codeOk G N b
  | .block _ b => codeOk G N b
  | .loop b => codeOk G N b
  | .scope b => codeOk G N b
  | .rangeFunc f ps asg body => opndOk G f && ps.toList.all (fun p => decide (p < N)) && codeOk G N asg && codeOk G N body
  | .skip | .exit _ | .label _ | .ret => true
  | _ => true

/-- What a function hands back. -/
def resL (P : Program) (E : Env) (H : Heap) : List ResultVar → Option (List Value)
  | [] => some []
  | .tmp t :: r => match resL P E H r with | some vs => some (E t :: vs) | none => none
  | .cell a t :: r => match aLoad P t (E a) H 0 with
    | some (v, _, _) => (match resL P E H r with | some vs => some (v :: vs) | none => none)
    | none => none
def retV : List Value → Value
  | [v] => v
  | vs => .tuple vs.toArray
def killAll : List Nat → Heap → Heap
  | [], H => H
  | i :: ds, H => killAll ds (H.upd i none)
def dfrs (H : Heap) : List Nat → Bool
  | [] => true
  | i :: ds => (match H.get i with | some .dfr => true | _ => false) && dfrs (H.upd i none) ds

/-- A function without a body that is known. -/
def aExt (P : Program) (fn : Func) (args : Array Value) (H : Heap) (n : Nat) : Out :=
  if fn.name == "internal/abi.NoEscape" then (match args.toList with | [x] => some (x, H, n) | _ => none) else
  match Extern.find fn with
  | some e => if args.toList.all rigid then (match pv P (e args) with | some v => if rigid v then some (v, H, n) else none | none => none) else none
  | none => none

/-- bytealg.MakeNoZero: a row of bytes of which nothing is known. -/
def aMnz (P : Program) (fn : Func) (args : Array Value) (H : Heap) (n : Nat) : Out :=
  if fn.name == "internal/bytealg.MakeNoZero" then (match args.toList, fn.resultTypes[0]? with
    | [.int .i64 k], some t => (match P.underlying t with
      | some (.slice e) => if 0 ≤ k ∧ k ≤ 1073741824 then some (.slice (some ⟨n, 0, none⟩) k.toNat 1, H.upd n (some (.cells [] e 1)), n + 1) else none
      | _ => none)
    | _, _ => none) else none

def tmpsOf (E : Env) (N : Nat) : Array Value := ((List.range N).map E).toArray
def setAll (ps : Array Tmp) (args : Array Value) (E : Array Value) : Array Value := (ps.zip args).foldl (fun t (p, v) => t.setIfInBounds p v) E
def jumpOf : XX → Option Code
  | .normal => none
  | .exit id => some (.exit id)
  | .ret => some .ret
def xxOf : Option Code → Option XX
  | none => some .normal
  | some (.exit id) => some (.exit id)
  | some .ret => some .ret
  | _ => none

/-- An operation of a region that has to wait for another one. -/
inductive Anc (ops : Array Oper) : Nat → Nat → Prop
  | edge {k o e} (ho : ops[k]? = some o) (he : e ∈ o.after) (hb : Region.binds .any e = true) : Anc ops e.on k
  | trans {i j k} (h : Anc ops i j) (h' : Anc ops j k) : Anc ops i k

/-- A region that draws its order: what its operations do in the order of the text; of each what it sees, and what it writes. -/
structure Draw where
  E : Nat → Env
  H : Nat → Heap
  n : Nat → Nat
  v : Nat → Value
  Vw : Nat → Heap
  V : Nat → Heap
  vis : Nat → Nat → Prop
  wr : Nat → Nat → Prop
  lo : Nat → Nat
  ext : Nat → Bool

structure DrawOk (P : Program) (lo : Nat) (ops : Array Oper) (E : Env) (H : Heap) (n : Nat) (d : Draw) : Prop where
  e0 : d.E 0 = E
  h0 : d.H 0 = H
  n0 : d.n 0 = n
  edges : ∀ (k : Nat) (o : Oper) (e : Edge), ops[k]? = some o → e ∈ o.after → Region.binds .any e = true → e.on < k
  le : ∀ k, k < ops.size → d.n k ≤ d.n (k + 1)
  env : ∀ (k : Nat) (o : Oper), ops[k]? = some o → d.E (k + 1) = (d.E k).put o.dst (d.v k)
  view : ∀ (k i : Nat) (b : Blk), k < ops.size → (d.Vw k).get i = some b → (d.H k).get i = some b ∧ d.vis k i
  low : ∀ k, k < ops.size → lo ≤ d.lo k
  may : ∀ k i, k < ops.size → d.lo k ≤ i → i < d.n k → d.vis k i → d.wr k i
  wrv : ∀ k i, d.wr k i → d.vis k i
  wrlo : ∀ k i, d.wr k i → d.lo k ≤ i
  wrlt : ∀ k i, d.wr k i → i < d.n k
  keepH : ∀ k i, k < ops.size → i < d.n k → ¬ d.wr k i → (d.H (k + 1)).get i = (d.H k).get i
  newH : ∀ (k i : Nat) (b : Blk), k < ops.size → (d.wr k i ∨ d.n k ≤ i) → (d.H (k + 1)).get i = some b → (d.V k).get i = some b
  ord : ∀ (j k : Nat) (oj ok : Oper), j < k → ops[j]? = some oj → ops[k]? = some ok → Anc ops j k ∨
    (oj.apart ops ok = true ∧ (∀ i, d.n j ≤ i → i < d.n (j + 1) → ¬ d.vis k i) ∧ (∀ i, d.wr j i → ¬ d.vis k i) ∧ (∀ i, d.wr k i → ¬ d.vis j i))
  newlt : ∀ (k i : Nat) (b : Blk), k < ops.size → (d.H (k + 1)).get i = some b → ((d.H k).get i).isSome = true ∨ (d.n k ≤ i ∧ i < d.n (k + 1))
  nosel : Region.noSelect ops = true
  unw : ∀ (k : Nat) (o : Oper), ops[k]? = some o → wantedE ops (d.E k) o = false → d.v k = undef ∧ d.n (k + 1) = d.n k ∧ ∀ i, ¬ d.wr k i
  prim : ∀ (k : Nat) (o : Oper), ops[k]? = some o → wantedE ops (d.E k) o = true → (∀ f args tys, o.op ≠ .call { callee := .value f, args := args, argTypes := tys }) →
    aOp P (d.lo k) o (ev (d.E k)) (d.Vw k) (d.n k) = some (d.v k, d.V k, d.n (k + 1))
  callf : ∀ (k : Nat) (o : Oper) f args tys, ops[k]? = some o → wantedE ops (d.E k) o = true → o.op = .call { callee := .value f, args := args, argTypes := tys } →
    ∃ g a b fn, ev (d.E k) f = .func (.func g) a b ∧ P.funcs[g]? = some fn ∧
      ((d.ext k = false ∧ ∃ c, fn.body = some c) ∨ (d.ext k = true ∧ fn.body = none ∧ (Extern.findNext fn).isNone = true ∧ (aExt P fn (a ++ args.map (ev (d.E k)) ++ b) (d.Vw k) (d.n k) = some (d.v k, d.V k, d.n (k + 1)) ∨ aMnz P fn (a ++ args.map (ev (d.E k)) ++ b) (d.Vw k) (d.n k) = some (d.v k, d.V k, d.n (k + 1)))))

mutual
/-- A piece of code: 'top' says that it is no round of a range over a function; no block below lo is written; N temporaries. -/
inductive Run (P : Program) (G : Nat) (Giv : Nat → FuncId → Array Value → Heap → Nat → (Value → Heap → Nat → Prop) → Prop) : Bool → Nat → Nat → Code → Env → List Nat → Heap → Nat → Post → Prop
  | skip {top lo N E ds H n} {Q : Post} (h : Q .normal E ds H n) : Run P G Giv top lo N .skip E ds H n Q
  | label {top lo N l E ds H n} {Q : Post} (h : Q .normal E ds H n) : Run P G Giv top lo N (.label l) E ds H n Q
  | exit {top lo N id E ds H n} {Q : Post} (h : Q (.exit id) E ds H n) : Run P G Giv top lo N (.exit id) E ds H n Q
  | ret {top lo N E ds H n} {Q : Post} (h : Q .ret E ds H n) : Run P G Giv top lo N .ret E ds H n Q
  | seq {top lo N a b E ds H n} {Q : Post} (Q1 : Post) (h : Run P G Giv top lo N a E ds H n Q1) (h1 : ∀ E' ds' H' n', Q1 .normal E' ds' H' n' → Run P G Giv top lo N b E' ds' H' n' Q)
      (h2 : ∀ x E' ds' H' n', x ≠ .normal → Q1 x E' ds' H' n' → Q x E' ds' H' n') : Run P G Giv top lo N (.seq a b) E ds H n Q
  | thn {top lo N c a b E ds H n} {Q : Post} (hc : ev E c = .bool true) (h : Run P G Giv top lo N a E ds H n Q) : Run P G Giv top lo N (.cond c a b) E ds H n Q
  | els {top lo N c a b E ds H n} {Q : Post} (hc : ev E c = .bool false) (h : Run P G Giv top lo N b E ds H n Q) : Run P G Giv top lo N (.cond c a b) E ds H n Q
  | block {top lo N id b E ds H n} {Q : Post} (Q1 : Post) (h : Run P G Giv top lo N b E ds H n Q1) (h1 : ∀ E' ds' H' n', Q1 .normal E' ds' H' n' → Q .normal E' ds' H' n')
      (h2 : ∀ E' ds' H' n', Q1 (.exit id) E' ds' H' n' → Q .normal E' ds' H' n') (h3 : ∀ j E' ds' H' n', j ≠ id → Q1 (.exit j) E' ds' H' n' → Q (.exit j) E' ds' H' n')
      (h4 : ∀ E' ds' H' n', Q1 .ret E' ds' H' n' → Q .ret E' ds' H' n') : Run P G Giv top lo N (.block id b) E ds H n Q
  | loop {top lo N b E ds H n} {Q : Post} (Q1 : Post) (h : Run P G Giv top lo N b E ds H n Q1) (h1 : ∀ E' ds' H' n', Q1 .normal E' ds' H' n' → Run P G Giv top lo N (.loop b) E' ds' H' n' Q)
      (h2 : ∀ x E' ds' H' n', x ≠ .normal → Q1 x E' ds' H' n' → Q x E' ds' H' n') : Run P G Giv top lo N (.loop b) E ds H n Q
  | scope {top lo N b E ds H n} {Q : Post} (h : Run P G Giv top lo N b E ds H n Q) : Run P G Giv top lo N (.scope b) E ds H n Q
  | region {top lo N id ops E ds H n} {Q : Post} (h : ROps P G Giv lo N ops ops.toList E H n (fun E' H' n' => Q .normal E' ds H' n')) : Run P G Giv top lo N (.region id ops false) E ds H n Q
  | regionD {top lo N id ops E ds H n} {Q : Post} (d : Draw) (hd : DrawOk P lo ops E H n d)
      (hc : ∀ (k : Nat) (o : Oper) f args tys g a b, ops[k]? = some o → wantedE ops (d.E k) o = true → o.op = .call { callee := .value f, args := args, argTypes := tys } → d.ext k = false → ev (d.E k) f = .func (.func g) a b →
        RCall P G Giv (d.lo k) g (a ++ args.map (ev (d.E k)) ++ b) (d.Vw k) (d.n k) (fun v H' n' => v = d.v k ∧ H' = d.V k ∧ n' = d.n (k + 1)))
      (h : Q .normal (d.E ops.size) ds (d.H ops.size) (d.n ops.size)) : Run P G Giv top lo N (.region id ops true) E ds H n Q
  | rangeFunc {lo N f ps asg body E ds H n} {Q : Post} {g : FuncId} {a b : Array Value} {fn : Func} {c : Code} (K : Value → Heap → Nat → Prop) (hf : ev E f = .func (.func g) a b) (hlo : lo ≤ n)
      (hfn : P.funcs[g]? = some fn) (hb : fn.body = some c)
      (h : RCall P G Giv lo g (a ++ #[.func (.yield (n + 1)) #[] #[]] ++ b) ((H.upd n (some .dfr)).upd (n + 1) (some (.loop (tmpsOf E N) ps asg body .ready none))) (n + 2) K)
      (h1 : ∀ v H' n', K v H' n' → ∃ E' st pend x, H'.get (n + 1) = some (.loop E' ps asg body st pend) ∧ st ≠ .busy ∧ xxOf pend = some x ∧ Q x E (n :: ds) (H'.upd (n + 1) none) n') :
      Run P G Giv true lo N (.rangeFunc f ps asg body) E ds H n Q
/-- The operations of a region, in order. -/
inductive ROps (P : Program) (G : Nat) (Giv : Nat → FuncId → Array Value → Heap → Nat → (Value → Heap → Nat → Prop) → Prop) : Nat → Nat → Array Oper → List Oper → Env → Heap → Nat → (Env → Heap → Nat → Prop) → Prop
  | nil {lo N ops E H n K} (h : K E H n) : ROps P G Giv lo N ops [] E H n K
  | unwanted {lo N ops o rest E H n K} (hw : wantedE ops E o = false) (h : ROps P G Giv lo N ops rest (E.put o.dst undef) H n K) : ROps P G Giv lo N ops (o :: rest) E H n K
  | op {lo N ops o rest E H n K v H' n'} (hw : wantedE ops E o = true) (ho : aOp P lo o (ev E) H n = some (v, H', n')) (h : ROps P G Giv lo N ops rest (E.put o.dst v) H' n' K) : ROps P G Giv lo N ops (o :: rest) E H n K
  | next {lo N ops o rest E H n K x} (K1 : Value → Heap → Nat → Prop) (hw : wantedE ops E o = true) (ho : o.op = .next x false) (hn : aNextM lo (ev E x) H n K1)
      (h : ∀ v H' n', K1 v H' n' → ROps P G Giv lo N ops rest (E.put o.dst v) H' n' K) : ROps P G Giv lo N ops (o :: rest) E H n K
  | call {lo N ops o rest E H n K f args tys g a b fn c} (K1 : Value → Heap → Nat → Prop) (hw : wantedE ops E o = true) (ho : o.op = .call { callee := .value f, args := args, argTypes := tys })
      (hf : ev E f = .func (.func g) a b) (hfn : P.funcs[g]? = some fn) (hb : fn.body = some c)
      (hc : RCall P G Giv lo g (a ++ args.map (ev E) ++ b) H n K1) (h : ∀ v H' n', K1 v H' n' → ROps P G Giv lo N ops rest (E.put o.dst v) H' n' K) : ROps P G Giv lo N ops (o :: rest) E H n K
  | ext {lo N ops o rest E H n K f args tys g a b fn v H' n'} (hw : wantedE ops E o = true) (ho : o.op = .call { callee := .value f, args := args, argTypes := tys })
      (hf : ev E f = .func (.func g) a b) (hfn : P.funcs[g]? = some fn) (hb : fn.body = none) (hx : (Extern.findNext fn).isNone = true)
      (he : aExt P fn (a ++ args.map (ev E) ++ b) H n = some (v, H', n')) (h : ROps P G Giv lo N ops rest (E.put o.dst v) H' n' K) : ROps P G Giv lo N ops (o :: rest) E H n K
  | yield {lo N ops o rest E H n K f args tys l El ps asg body pend} (QA QB : Post) (K1 : Value → Heap → Nat → Prop) (hw : wantedE ops E o = true) (ho : o.op = .call { callee := .value f, args := args, argTypes := tys })
      (hf : ev E f = .func (.yield l) #[] #[]) (hlo : lo ≤ l) (hl : H.get l = some (.loop El ps asg body .ready pend)) (hsz : args.size = ps.size) (hok : codeOk G El.size asg = true) (hok2 : codeOk G El.size body = true)
      (ha : Run P G Giv false lo El.size asg (ofArgs (setAll ps (args.map (ev E)) El)) [] H n QA)
      (ha1 : ∀ x E' ds' H' n', QA x E' ds' H' n' → x = .normal ∧ H'.get l = some (.loop El ps asg body .ready pend))
      (hb : ∀ E' ds' H' n', QA .normal E' ds' H' n' → Run P G Giv false lo El.size body E' ds' (H'.upd l (some (.loop El ps asg body .busy pend))) n' QB)
      (hb1 : ∀ x E' ds' H' n', QB x E' ds' H' n' → H'.get l = some (.loop El ps asg body .busy pend) ∧
        K1 (.bool (jumpOf x).isNone) (H'.upd l (some (.loop El ps asg body (if (jumpOf x).isNone then .ready else .done) (jumpOf x)))) n')
      (h : ∀ v H' n', K1 v H' n' → ROps P G Giv lo N ops rest (E.put o.dst v) H' n' K) : ROps P G Giv lo N ops (o :: rest) E H n K
  | mnz {lo N ops o rest E H n K f args tys g a b fn v H' n'} (hw : wantedE ops E o = true) (ho : o.op = .call { callee := .value f, args := args, argTypes := tys })
      (hf : ev E f = .func (.func g) a b) (hfn : P.funcs[g]? = some fn) (hb : fn.body = none) (hx : (Extern.findNext fn).isNone = true)
      (he : aMnz P fn (a ++ args.map (ev E) ++ b) H n = some (v, H', n')) (h : ROps P G Giv lo N ops rest (E.put o.dst v) H' n' K) : ROps P G Giv lo N ops (o :: rest) E H n K
/-- A call. -/
inductive RCall (P : Program) (G : Nat) (Giv : Nat → FuncId → Array Value → Heap → Nat → (Value → Heap → Nat → Prop) → Prop) : Nat → FuncId → Array Value → Heap → Nat → (Value → Heap → Nat → Prop) → Prop
  | mk {lo f args H n K fn c} (Q : Post) (hfn : P.funcs[f]? = some fn) (hb : fn.body = some c) (hok : codeOk G fn.ntmps c = true) (hsz : args.size ≤ fn.ntmps) (h : Run P G Giv true lo fn.ntmps c (ofArgs args) [] H n Q)
      (h1 : ∀ x E' ds' H' n', Q x E' ds' H' n' → (x = .normal ∨ x = .ret) ∧ dfrs H' ds' = true ∧ (∀ i ∈ ds', lo ≤ i) ∧ ∃ vs, resL P E' (killAll ds' H') fn.results.toList = some vs ∧ K (retV vs) (killAll ds' H') n') : RCall P G Giv lo f args H n K
  | given {lo f args H n K} (h : Giv lo f args H n K) : RCall P G Giv lo f args H n K
end

end
end Go.AL
