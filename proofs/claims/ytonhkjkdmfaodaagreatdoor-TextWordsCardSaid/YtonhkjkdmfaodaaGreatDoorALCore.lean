/- An abstract machine: values as the model's, blocks by abstract numbers, no tape, no capacities; Call is the least relation closed under its rules. -/
import Derived.WalkKit
set_option linter.unusedVariables false
set_option linter.unusedSimpArgs false
namespace Go.AL
open Go.RowKit
noncomputable section

/-! ### The heap: a tree by the number's bits, and hidden ranges -/
inductive Blk where
  | cells (vs : List Value) (t : TypeId) (es : Nat)
  | ro (vs : List Value)
  | map (es : List MapEntry) (clock : Nat)
  | sit (s : ByteArray) (pos : Nat)
  | mit (m : Option Nat) (since : Nat) (seen : List Nat) (stepped : Nat)
  | dfr
  | loop (E : Array Value) (ps : Array Tmp) (asg body : Code) (st : LoopState) (pend : Option Code)

inductive Tree where
  | nil
  | node (v : Option Blk) (l r : Tree)

/-- By the recursors themselves: the kernel is quicker so. -/
noncomputable def Tree.get (t : Tree) : Nat → Option Blk :=
  Tree.rec (motive := fun _ => Nat → Option Blk) (fun _ => none) (fun v _ _ gl gr i => Bool.rec (motive := fun _ => Option Blk) (Bool.rec (motive := fun _ => Option Blk) (gr (Nat.sub (Nat.div i 2) 1)) (gl (Nat.div i 2)) (Nat.beq (Nat.mod i 2) 1)) v (Nat.beq i 0)) t
noncomputable def Tree.set (f : Nat) : Tree → Nat → Option Blk → Tree :=
  Nat.rec (motive := fun _ => Tree → Nat → Option Blk → Tree) (fun t _ _ => t) (fun _ ih t i b =>
    Tree.rec (motive := fun _ => Tree)
      (Bool.rec (motive := fun _ => Tree) (Bool.rec (motive := fun _ => Tree) (.node none .nil (ih .nil (Nat.sub (Nat.div i 2) 1) b)) (.node none (ih .nil (Nat.div i 2) b) .nil) (Nat.beq (Nat.mod i 2) 1)) (.node b .nil .nil) (Nat.beq i 0))
      (fun v l r _ _ => Bool.rec (motive := fun _ => Tree) (Bool.rec (motive := fun _ => Tree) (.node v l (ih r (Nat.sub (Nat.div i 2) 1) b)) (.node v (ih l (Nat.div i 2) b) r) (Nat.beq (Nat.mod i 2) 1)) (.node b l r) (Nat.beq i 0)) t) f

theorem brec_if {α : Type} (i j : Nat) (a b : α) : (Bool.rec (motive := fun _ => α) a b (Nat.beq i j)) = if i = j then b else a := by
  by_cases h : i = j
  · subst h; rw [if_pos rfl]; have : Nat.beq i i = true := by simp
    rw [this]
  · rw [if_neg h]; have : Nat.beq i j = false := by cases e : Nat.beq i j with
      | false => rfl
      | true => exact absurd (Nat.eq_of_beq_eq_true e) h
    rw [this]
theorem Tree.get_nil (i : Nat) : Tree.get .nil i = none := rfl
theorem Tree.get_node (v : Option Blk) (l r : Tree) (i : Nat) : Tree.get (.node v l r) i = if i = 0 then v else if i % 2 = 1 then l.get (i / 2) else r.get (i / 2 - 1) := by
  show Bool.rec (motive := fun _ => Option Blk) (Bool.rec (motive := fun _ => Option Blk) (r.get (i / 2 - 1)) (l.get (i / 2)) (Nat.beq (i % 2) 1)) v (Nat.beq i 0) = _
  rw [brec_if, brec_if]
theorem Tree.set_zero (t : Tree) (i : Nat) (b : Option Blk) : Tree.set 0 t i b = t := rfl
theorem Tree.set_nil (f : Nat) (i : Nat) (b : Option Blk) : Tree.set (f + 1) .nil i b = if i = 0 then .node b .nil .nil else if i % 2 = 1 then .node none (Tree.set f .nil (i / 2) b) .nil else .node none .nil (Tree.set f .nil (i / 2 - 1) b) := by
  show Bool.rec (motive := fun _ => Tree) (Bool.rec (motive := fun _ => Tree) (.node none .nil (Tree.set f .nil (i / 2 - 1) b)) (.node none (Tree.set f .nil (i / 2) b) .nil) (Nat.beq (i % 2) 1)) (.node b .nil .nil) (Nat.beq i 0) = _
  rw [brec_if, brec_if]
theorem Tree.set_node (f : Nat) (v : Option Blk) (l r : Tree) (i : Nat) (b : Option Blk) : Tree.set (f + 1) (.node v l r) i b = if i = 0 then .node b l r else if i % 2 = 1 then .node v (l.set f (i / 2) b) r else .node v l (r.set f (i / 2 - 1) b) := by
  show Bool.rec (motive := fun _ => Tree) (Bool.rec (motive := fun _ => Tree) (.node v l (r.set f (i / 2 - 1) b)) (.node v (l.set f (i / 2) b) r) (Nat.beq (i % 2) 1)) (.node b l r) (Nat.beq i 0) = _
  rw [brec_if, brec_if]

def Tree.getC : Tree → Nat → Option Blk
  | .nil, _ => none
  | .node v l r, i => if i = 0 then v else if i % 2 = 1 then l.getC (i / 2) else r.getC (i / 2 - 1)
def Tree.setC : Nat → Tree → Nat → Option Blk → Tree
  | 0, t, _, _ => t
  | f + 1, .nil, i, b => if i = 0 then .node b .nil .nil else if i % 2 = 1 then .node none (Tree.setC f .nil (i / 2) b) .nil else .node none .nil (Tree.setC f .nil (i / 2 - 1) b)
  | f + 1, .node v l r, i, b => if i = 0 then .node b l r else if i % 2 = 1 then .node v (l.setC f (i / 2) b) r else .node v l (r.setC f (i / 2 - 1) b)
theorem Tree.getC_eq : @Tree.get = @Tree.getC := by
  funext t
  induction t with
  | nil => rfl
  | node v l r hl hr => funext i; rw [Tree.get_node, Tree.getC, hl, hr]
theorem Tree.setC_eq : @Tree.set = @Tree.setC := by
  funext f
  induction f with
  | zero => rfl
  | succ f ih =>
    funext t i b
    cases t with
    | nil => rw [Tree.set_nil, Tree.setC, ih]
    | node v l r => rw [Tree.set_node, Tree.setC, ih]

theorem Tree.get_set (b : Option Blk) : ∀ (f : Nat) (t : Tree) (i j : Nat), i < f → (t.set f i b).get j = if j = i then b else t.get j := by
  intro f
  induction f with
  | zero => intro t i j h; omega
  | succ f ih =>
    intro t i j h
    have hnil : ∀ k, Tree.get .nil k = none := fun k => rfl
    cases t with
    | nil =>
      simp only [Tree.set_nil, Tree.set_node]
      by_cases hi : i = 0
      · subst hi
        simp only [if_true, Tree.get_node]
        by_cases hj : j = 0
        · simp [hj, Tree.get_nil]
        · simp [hj, Tree.get_nil]
      · by_cases ho : i % 2 = 1
        · simp only [hi, if_false, ho, if_true, Tree.get_node]
          by_cases hj : j = 0
          · subst hj; simp [Ne.symm hi, Tree.get_nil]
          · by_cases hp : j % 2 = 1
            · simp only [hj, if_false, hp, if_true]
              rw [ih _ _ _ (by omega)]
              by_cases e : j = i
              · subst e; simp
              · simp [show ¬ j / 2 = i / 2 by omega, e, hnil]
            · simp [hj, hp, Tree.get_nil, show ¬ j = i by intro e; subst e; exact hp ho]
        · simp only [hi, if_false, ho, Tree.get_node]
          by_cases hj : j = 0
          · subst hj; simp [Ne.symm hi, Tree.get_nil]
          · by_cases hp : j % 2 = 1
            · simp [hj, hp, Tree.get_nil, show ¬ j = i by intro e; subst e; exact ho hp]
            · simp only [hj, if_false, hp]
              rw [ih _ _ _ (by omega)]
              by_cases e : j = i
              · subst e; simp
              · simp [show ¬ j / 2 - 1 = i / 2 - 1 by omega, e, hnil]
    | node v l r =>
      simp only [Tree.set_nil, Tree.set_node]
      by_cases hi : i = 0
      · subst hi
        simp only [if_true, Tree.get_node]
        by_cases hj : j = 0
        · simp [hj, Tree.get_nil]
        · simp [hj, Tree.get_nil]
      · by_cases ho : i % 2 = 1
        · simp only [hi, if_false, ho, if_true, Tree.get_node]
          by_cases hj : j = 0
          · subst hj; simp [Ne.symm hi, Tree.get_nil]
          · by_cases hp : j % 2 = 1
            · simp only [hj, if_false, hp, if_true]
              rw [ih _ _ _ (by omega)]
              by_cases e : j = i
              · subst e; simp
              · simp [show ¬ j / 2 = i / 2 by omega, e]
            · simp [hj, hp, Tree.get_nil, show ¬ j = i by intro e; subst e; exact hp ho]
        · simp only [hi, if_false, ho, Tree.get_node]
          by_cases hj : j = 0
          · subst hj; simp [Ne.symm hi, Tree.get_nil]
          · by_cases hp : j % 2 = 1
            · simp [hj, hp, Tree.get_nil, show ¬ j = i by intro e; subst e; exact ho hp]
            · simp only [hj, if_false, hp]
              rw [ih _ _ _ (by omega)]
              by_cases e : j = i
              · subst e; simp
              · simp [show ¬ j / 2 - 1 = i / 2 - 1 by omega, e]

structure Heap where
  tr : Tree
  hid : List (Nat × Nat)

def inRange (l : List (Nat × Nat)) (i : Nat) : Bool := l.any fun p => decide (p.1 ≤ i) && decide (i < p.2)

def Heap.get (H : Heap) (i : Nat) : Option Blk := if inRange H.hid i then none else H.tr.get i
def Heap.upd (H : Heap) (i : Nat) (b : Option Blk) : Heap := { H with tr := H.tr.set (i + 1) i b }
def Heap.hide (H : Heap) (l : List (Nat × Nat)) : Heap := { H with hid := l ++ H.hid }
def Heap.show_ (H : Heap) (l : List (Nat × Nat)) : Heap := { H with hid := l }

theorem Heap.get_upd (H : Heap) (i j : Nat) (b : Option Blk) : (H.upd i b).get j = if inRange H.hid j then none else if j = i then b else H.get j := by
  simp only [Heap.get, Heap.upd]
  by_cases h : inRange H.hid j
  · simp [h]
  · simp [h, Tree.get_set]

/-! ### Values without addresses -/
def notYield : Fn → Bool
  | .yield _ => false
  | _ => true
def sc0 : Value → Bool
  | .bool _ | .int _ _ | .string _ | .pointer none | .slice none 0 0 | .map none | .nilFunc | .nilIface => true
  | .func f a b => notYield f && a.toList.isEmpty && b.toList.isEmpty
  | _ => false
def sc1 : Value → Bool
  | .iface _ (.agg cs) => cs.toList.all sc0
  | .iface _ x => sc0 x
  | v => sc0 v
def sc2 : Value → Bool
  | .agg cs => cs.toList.all sc1
  | v => sc1 v
def rigid : Value → Bool
  | .tuple cs => cs.toList.all sc2
  | v => sc2 v

/-! ### What a type is -/
def szOf (P : Program) (t : TypeId) : Nat := match P.info? t with | some i => i.size | none => 0
def zeroOf (P : Program) (t : TypeId) : Option Value := match P.info? t with
  | some i => match i.zero with | some z => if sc2 z && z.cells.toList.all Value.oneCell' then some z else none | none => none
  | none => none
def bytesOf (P : Program) (t : TypeId) : Nat := match P.info? t with | some i => i.bytes | none => 0
def aggT (P : Program) (t : TypeId) : Bool := match P.underlying t with | some (.struct _) | some (.array _ _) => true | _ => false
/-- The elements' size, where a variable of the type is sliced. -/
def esOf (P : Program) (t : TypeId) : Nat := match P.underlying t with | some (.array _ e) => szOf P e | _ => szOf P t
/-- Where a field begins, and its type. -/
def fieldOf (P : Program) (s : TypeId) (f : Nat) : Option (Nat × TypeId) :=
  match P.underlying s with
  | some (.struct fs) => match fs[f]? with | some d => some (d.offset, d.type) | none => none
  | _ => none
def sliceElem (P : Program) (t : TypeId) : Option TypeId := match P.underlying t with | some (.slice e) => if 0 < szOf P e then some e else none | _ => none
def arrayElem (P : Program) (t : TypeId) : Option (Nat × TypeId) := match P.underlying t with | some (.array n e) => if 0 < szOf P e then some (n, e) else none | _ => none
def mapElem (P : Program) (t : TypeId) : Option (TypeId × TypeId) := match P.underlying t with | some (.map k e) => some (k, e) | _ => none
/-- A key's type: whole numbers, texts, bools. -/
def plainKey (P : Program) (k : TypeId) : Bool := match P.underlying k with | some (.int _) | some .string | some .bool => true | _ => false

/-! ### Cells -/
def readL : List Value → Nat → Nat → Option (List Value)
  | _, _, 0 => some []
  | vs, o, n + 1 => match vs[o]? with
    | some v => match readL vs (o + 1) n with | some r => some (v :: r) | none => none
    | none => none
def writeL : List Value → Nat → List Value → List Value
  | vs, _, [] => vs
  | vs, o, c :: cs => writeL (vs.set o c) (o + 1) cs
def Blk.vals : Blk → Option (List Value)
  | .cells vs _ _ => some vs
  | .ro vs => some vs
  | _ => none
def Heap.read (H : Heap) (i o n : Nat) : Option (List Value) := match H.get i with
  | some (.cells vs _ _) => readL vs o n
  | some (.ro vs) => readL vs o n
  | _ => none
def pack (P : Program) (t : TypeId) (cs : List Value) : Option Value := if aggT P t then some (.agg cs.toArray) else match cs with | [v] => some v | _ => none
def zerosL (z : List Value) : Nat → List Value
  | 0 => []
  | n + 1 => z ++ zerosL z n

/-! ### A run that looks at no memory -/
def pv {α : Type} (P : Program) : Sem α → Option α
  | .pure a => some a
  | .program k => pv P (k P)
  | _ => none

theorem run_of_pv {α : Type} {P : Program} {s : Sem α} {a : α} (h : pv P s = some a) (w : World) : s.run P w = .ok a w := by
  induction s with
  | pure b => simp only [pv, Option.some.injEq] at h; subst h; rfl
  | program k ih => simp only [pv] at h; exact ih P h
  | _ => simp [pv] at h

/-! ### Operations -/
def ptr (i o : Nat) : Value := .pointer (some ⟨i, o, none⟩)

abbrev Out := Option (Value × Heap × Nat)

def aAlloc (P : Program) (t : TypeId) (H : Heap) (n : Nat) (v : Option Value) : Out :=
  match v with
  | some v => some (ptr n 0, H.upd n (some (.cells v.cells.toList t (esOf P t))), n + 1)
  | none => none

def aLoad (P : Program) (t : TypeId) (a : Value) (H : Heap) (n : Nat) : Out :=
  match a with
  | .pointer (some ⟨i, o, none⟩) => if (P.underlying t).isSome then (match H.read i o (if aggT P t then szOf P t else 1) with
    | some cs => match pack P t cs with | some v => some (v, H, n) | none => none
    | none => none) else none
  | _ => none

def aStore (P : Program) (lo : Nat) (t : TypeId) (a v : Value) (H : Heap) (n : Nat) : Out :=
  match a with
  | .pointer (some ⟨i, o, none⟩) => match H.get i with
    | some (.cells vs t' es) =>
      if lo ≤ i ∧ 0 < szOf P t ∧ v.cells.toList.length = szOf P t ∧ v.cells.toList.all Value.oneCell' = true ∧ o + v.cells.toList.length ≤ vs.length then some (undef, H.upd i (some (.cells (writeL vs o v.cells.toList) t' es)), n) else none
    | _ => none
  | _ => none

def aFieldAddr (P : Program) (s : TypeId) (a : Value) (f : Nat) : Option Value :=
  match a, fieldOf P s f with
  | .pointer (some ⟨i, o, none⟩), some (off, t) => if szOf P t = 0 then none else some (ptr i (o + off))
  | _, _ => none

def aIndexAddr (P : Program) (t : TypeId) (x j : Value) : Option Value :=
  match j with
  | .int _ j => match x with
    | .slice (some ⟨i, o, none⟩) len _ => match sliceElem P t with
      | some e => if 0 ≤ j ∧ j < len then some (ptr i (o + j.toNat * szOf P e)) else none
      | none => none
    | .pointer (some ⟨i, o, none⟩) => match arrayElem P t with
      | some (len, e) => if 0 ≤ j ∧ j < len then some (ptr i (o + j.toNat * szOf P e)) else none
      | none => none
    | _ => none
  | _ => none

/-- A cut of a slice: from its beginning on it may be appended to; from elsewhere it is only read (2). -/
def aSlice (P : Program) (t : TypeId) (x : Value) (lo hi mx : Option Value) : Option Value :=
  match x with
  | .slice a len c => match sliceElem P t with
    | some e => match mx with
      | none =>
        match hi with
        | none => match lo with
          | none => some x
          | some (.int _ l) => if 0 ≤ l ∧ l ≤ len then (match a with
            | some ⟨i, o, none⟩ => some (.slice (some ⟨i, o + l.toNat * szOf P e, none⟩) (len - l.toNat) 2)
            | none => if len = 0 ∧ c = 0 then some x else none
            | _ => none) else none
          | _ => none
        | some (.int _ h) => if 0 ≤ h ∧ h ≤ len then (match lo with
          | none => (match a with
            | some ⟨i, o, none⟩ => some (.slice a h.toNat c)
            | none => if len = 0 ∧ c = 0 then some x else none
            | _ => none)
          | some (.int _ l) => if 0 ≤ l ∧ l ≤ h then (match a with
            | some ⟨i, o, none⟩ => some (.slice (some ⟨i, o + l.toNat * szOf P e, none⟩) (h.toNat - l.toNat) 2)
            | none => if len = 0 ∧ c = 0 then some x else none
            | _ => none) else none
          | _ => none) else none
        | _ => none
      | some (.int _ m) => match hi, lo with
        | some (.int _ h), none => if m = 0 ∧ h = 0 then (match a with | none => if len = 0 ∧ c = 0 then some x else none | some _ => some (.slice a 0 0)) else none
        | some (.int _ h), some (.int _ l) => if m = 0 ∧ h = 0 ∧ l = 0 then (match a with | none => if len = 0 ∧ c = 0 then some x else none | some _ => some (.slice a 0 0)) else none
        | _, _ => none
      | _ => none
    | none => none
  | _ => none
/-- A cut of a variable that is an array. -/
def aSliceArr (P : Program) (t : TypeId) (x : Value) (lo hi mx : Option Value) : Option Value :=
  match x with
  | .pointer (some ⟨i, o, none⟩) => match arrayElem P t with
    | some (k, e) => match mx with
      | none =>
        match (match hi with | none => some (k : Int) | some (.int _ h) => some h | _ => none), (match lo with | none => some (0 : Int) | some (.int _ l) => some l | _ => none) with
        | some h, some l => if 0 ≤ l ∧ l ≤ h ∧ h ≤ k then some (.slice (some ⟨i, o + l.toNat * szOf P e, none⟩) (h.toNat - l.toNat) 2) else none
        | _, _ => none
      | _ => none
    | none => none
  | _ => none

/-- The elements that are appended, or copied. -/
def elemsOf (P : Program) (e : TypeId) (x : Value) (H : Heap) : Option (Nat × List Value) :=
  match x with
  | .slice none m _ => some (0, [])
  | .slice (some ⟨i, o, none⟩) m _ => match H.read i o (m * szOf P e) with | some cs => some (m, cs) | none => none
  | .string s => if szOf P e = 1 then some (s.size, s.data.toList.map fun b => .int .u8 b.toNat) else none
  | _ => none

def aAppend (P : Program) (lo : Nat) (t : TypeId) (s x : Value) (H : Heap) (n : Nat) : Out :=
  match s with
  | .slice a len c => match sliceElem P t with
    | some e => match elemsOf P e x H with
      | some (m, cs) =>
        if bytesOf P e = 0 ∨ 65536 < bytesOf P e ∨ 1073741824 < len + m ∨ ((zeroOf P e).map (fun z => z.cells.toList.length)) ≠ some (szOf P e) ∨ cs.all Value.oneCell' = false then none else
        if m = 0 then some (s, H, n) else
        match a with
        | none => if len = 0 ∧ c = 0 then some (.slice (some ⟨n, 0, none⟩) m 1, H.upd n (some (.cells cs e (szOf P e))), n + 1) else none
        | some ⟨i, o, none⟩ =>
          if c = 0 then (if len = 0 then some (.slice (some ⟨n, 0, none⟩) m 1, H.upd n (some (.cells cs e (szOf P e))), n + 1) else none) else
          if c = 1 ∧ o = 0 ∧ lo ≤ i then
            match H.get i with
            | some (.cells vs t' es) => if t' = e ∧ es = szOf P e ∧ len * szOf P e ≤ vs.length then
                some (.slice (some ⟨n, 0, none⟩) (len + m) 1, (H.upd i none).upd n (some (.cells (vs.take (len * szOf P e) ++ cs) e (szOf P e))), n + 1) else none
            | _ => none
          else none
        | _ => none
      | none => none
    | none => none
  | _ => none

def aMakeSlice (P : Program) (t : TypeId) (l c : Value) (H : Heap) (n : Nat) : Out :=
  match l, c with
  | .int _ l, .int _ c => match sliceElem P t with
    | some e => match zeroOf P e with
      | some z => if 0 ≤ l ∧ l ≤ c ∧ c ≤ 1073741824 ∧ bytesOf P e ≤ 65536 ∧ z.cells.toList.length = szOf P e ∧ 0 < szOf P e then
          some (.slice (some ⟨n, 0, none⟩) l.toNat (if c = 0 then 0 else 1), H.upd n (some (.cells (zerosL z.cells.toList l.toNat) e (szOf P e))), n + 1) else none
      | none => none
    | none => none
  | _, _ => none

/-- The parts of a literal, in order, none left out. -/
def partsCells (sz : Nat) : Nat → List (Nat × Value) → Option (List Value)
  | _, [] => some []
  | k, (i, v) :: r => if i = k ∧ v.cells.toList.length = sz ∧ v.cells.toList.all Value.oneCell' = true then (match partsCells sz (k + 1) r with | some cs => some (v.cells.toList ++ cs) | none => none) else none

def aBuildSlice (P : Program) (t : TypeId) (len : Nat) (parts : List (Nat × Value)) (H : Heap) (n : Nat) : Out :=
  match sliceElem P t with
  | some e => match partsCells (szOf P e) 0 parts with
    | some cs => if parts.length = len ∧ len * szOf P e ≤ 65536 ∧ 0 < szOf P e ∧ (zeroOf P e).isSome then
        some (.slice (some ⟨n, 0, none⟩) len (if len = 0 then 0 else 1), H.upd n (some (.cells cs e (szOf P e))), n + 1) else none
    | none => none
  | none => none

/-- A struct's literal: some fields over the zero value. -/
def fillS (P : Program) (t : TypeId) : List Value → List (Nat × Value) → Option (List Value)
  | cs, [] => some cs
  | cs, (i, v) :: r => match fieldOf P t i with
    | some (off, ft) => if v.cells.toList.length = szOf P ft ∧ off + v.cells.toList.length ≤ cs.length then fillS P t (writeL cs off v.cells.toList) r else none
    | none => none
def fillA (sz : Nat) : List Value → List (Nat × Value) → Option (List Value)
  | cs, [] => some cs
  | cs, (i, v) :: r => if v.cells.toList.length = sz ∧ i * sz + v.cells.toList.length ≤ cs.length then fillA sz (writeL cs (i * sz) v.cells.toList) r else none
def aBuild (P : Program) (t : TypeId) (parts : List (Nat × Value)) : Option Value :=
  match zeroOf P t with
  | some z => match P.underlying t with
    | some (.struct fs) => if fs.toList.all (fun f => (P.info? f.type).isSome) then (match fillS P t z.cells.toList parts with | some cs => some (.agg cs.toArray) | none => none) else none
    | some (.array _ e) => if 0 < szOf P e then (match fillA (szOf P e) z.cells.toList parts with | some cs => some (.agg cs.toArray) | none => none) else none
    | _ => none
  | none => none

def aField (P : Program) (t : TypeId) (x : Value) (f : Nat) : Option Value :=
  match x, fieldOf P t f with
  | .agg cs, some (off, ft) => if (P.underlying ft).isSome then (if aggT P ft then some (.agg (cs.extract off (off + szOf P ft))) else cs[off]?) else none
  | _, _ => none

def aIndexAgg (P : Program) (t : TypeId) (x j : Value) : Option Value :=
  match x, j, arrayElem P t with
  | .agg cs, .int _ j, some (len, e) => if 0 ≤ j ∧ j < len ∧ (P.underlying e).isSome = true then (if aggT P e then some (.agg (cs.extract (j.toNat * szOf P e) (j.toNat * szOf P e + szOf P e))) else cs[j.toNat * szOf P e]?) else none
  | _, _, _ => none

/-! ### Maps -/
def sameKey : Value → Value → Bool
  | .int k a, .int k' b => a == b
  | .string a, .string b => a == b
  | .bool a, .bool b => a == b
  | _, _ => false
def keyFits (d : Option TypeDesc) (k : Value) : Bool :=
  match d, k with
  | some (.int kk), .int k' _ => kk == k'
  | some .string, .string _ => true
  | some .bool, .bool _ => true
  | _, _ => false
def findE (k : Value) : List MapEntry → Nat → Option (Nat × Value)
  | [], _ => none
  | e :: es, i => if sameKey k e.key then some (i, e.val) else findE k es (i + 1)

def aLookup (P : Program) (t : TypeId) (m k : Value) (ok : Bool) (H : Heap) (n : Nat) : Out :=
  match mapElem P t with
  | some (kt, et) => match zeroOf P et with
    | some z =>
      let es : Option (List MapEntry) := match m with
        | .map none => some []
        | .map (some i) => match H.get i with | some (.map es _) => some es | _ => none
        | _ => none
      match es with
      | some es => if keyFits (P.underlying kt) k = true ∧ es.all (fun e => keyFits (P.underlying kt) e.key) = true then
          (match findE k es 0 with
          | some (_, v) => some (if ok then .tuple #[v, .bool true] else v, H, n)
          | none => some (if ok then .tuple #[z, .bool false] else z, H, n)) else none
      | none => none
    | none => none
  | none => none

def aMapUpdate (P : Program) (lo : Nat) (t : TypeId) (m k v : Value) (H : Heap) (n : Nat) : Out :=
  match mapElem P t, m with
  | some (kt, et), .map (some i) => match H.get i with
    | some (.map es clock) => if lo ≤ i ∧ keyFits (P.underlying kt) k = true ∧ es.all (fun e => keyFits (P.underlying kt) e.key) = true then
        (match findE k es 0 with
        | some (j, _) => some (undef, H.upd i (some (.map (es.modify j fun e => { e with key := k, val := v }) clock)), n)
        | none => some (undef, H.upd i (some (.map (es ++ [{ key := k, val := v, born := clock }]) (clock + 1))), n)) else none
    | _ => none
  | _, _ => none

def aMapEntry (P : Program) (lo : Nat) (t : TypeId) (m k : Value) (H : Heap) (n : Nat) : Out :=
  match mapElem P t, m with
  | some (kt, et), .map (some i) => match H.get i, zeroOf P et with
    | some (.map es clock), some z => if lo ≤ i ∧ keyFits (P.underlying kt) k = true ∧ es.all (fun e => keyFits (P.underlying kt) e.key) = true then
        (match findE k es 0 with
        | some (j, v) => some (.tuple #[v, goInt (((es[j]?).map (·.born)).getD 0)], H.upd i (some (.map (es.modify j fun e => { e with key := k }) clock)), n)
        | none => some (.tuple #[z, goInt clock], H.upd i (some (.map (es ++ [{ key := k, val := z, born := clock }]) (clock + 1))), n)) else none
    | _, _ => none
  | _, _ => none
def aEntryStore (lo : Nat) (m b v : Value) (H : Heap) (n : Nat) : Out :=
  match m, b with
  | .map (some i), .int _ b => match H.get i with
    | some (.map es clock) => if lo ≤ i then (match es.findIdx? (fun e => (e.born : Int) == b) with | some j => some (undef, H.upd i (some (.map (es.modify j fun e => { e with val := v }) clock)), n) | none => none) else none
    | _ => none
  | _, _ => none

def aDelete (P : Program) (lo : Nat) (t : TypeId) (m k : Value) (H : Heap) (n : Nat) : Out :=
  match mapElem P t, m with
  | some (kt, _), .map (some i) => match H.get i with
    | some (.map es clock) => if lo ≤ i ∧ keyFits (P.underlying kt) k = true ∧ es.all (fun e => keyFits (P.underlying kt) e.key) = true then
        (match findE k es 0 with
        | some (j, _) => some (.tuple #[], H.upd i (some (.map (es.eraseIdx j) clock)), n)
        | none => some (.tuple #[], H.upd i (some (.map es clock)), n)) else none
    | _ => none
  | _, _ => none

def aLen (P : Program) (t : TypeId) (x : Value) (H : Heap) (n : Nat) : Out :=
  match P.underlying t, x with
  | some (.slice _), .slice _ k _ => some (goInt k, H, n)
  | some .string, .string s => some (goInt s.size, H, n)
  | some (.map _ _), .map none => some (goInt 0, H, n)
  | some (.map _ _), .map (some i) => match H.get i with | some (.map es _) => some (goInt es.length, H, n) | _ => none
  | some (.array k _), _ => some (goInt k, H, n)
  | _, _ => none

def lenA (x : Value) : Option Nat := match x with | .slice _ m _ => some m | .string s => some s.size | _ => none
def copyCells (sz k : Nat) (x : Value) (H : Heap) : Option (List Value) :=
  match x with
  | .slice none _ _ => some []
  | .slice (some ⟨i, o, none⟩) _ _ => H.read i o (k * sz)
  | .string s => some ((s.extract 0 k).data.toList.map fun b => .int .u8 b.toNat)
  | _ => none
def aCopy (P : Program) (lo : Nat) (t : TypeId) (d x : Value) (H : Heap) (n : Nat) : Out :=
  match d, sliceElem P t with
  | .slice a len _, some e =>
    match lenA x with
    | some m =>
      match copyCells (szOf P e) (Nat.min m len) x H with
      | some [] => some (goInt (Nat.min m len), H, n)
      | some cs => (match a with
        | some ⟨i, o, none⟩ => match H.get i with
          | some (.cells vs t' es) => if lo ≤ i ∧ o + cs.length ≤ vs.length ∧ cs.all Value.oneCell' = true then some (goInt (Nat.min m len), H.upd i (some (.cells (writeL vs o cs) t' es)), n) else none
          | _ => none
        | _ => none)
      | none => none
    | none => none
  | _, _ => none

def aClear (P : Program) (lo : Nat) (t : TypeId) (x : Value) (H : Heap) (n : Nat) : Out :=
  match x, sliceElem P t with
  | .slice none _ _, some _ => some (.tuple #[], H, n)
  | .slice (some ⟨i, o, none⟩) k _, some e => if k = 0 then some (.tuple #[], H, n) else
    match H.get i, zeroOf P e with
    | some (.cells vs t' es), some z => if lo ≤ i ∧ o + (zerosL z.cells.toList k).length ≤ vs.length ∧ z.cells.toList.all Value.oneCell' = true then some (.tuple #[], H.upd i (some (.cells (writeL vs o (zerosL z.cells.toList k)) t' es)), n) else none
    | _, _ => none
  | _, _ => none

def aRange (P : Program) (t : TypeId) (x : Value) (H : Heap) (n : Nat) : Out :=
  match P.underlying t, x with
  | some .string, .string s => some (ptr n 0, H.upd n (some (.sit s 0)), n + 1)
  | some (.map _ _), .map none => some (ptr n 0, H.upd n (some (.mit none 0 [] 0)), n + 1)
  | some (.map _ _), .map (some i) => match H.get i with
    | some (.map _ clock) => some (ptr n 0, H.upd n (some (.mit (some i) clock [] clock)), n + 1)
    | _ => none
  | _, _ => none

def aNextS (lo : Nat) (x : Value) (H : Heap) (n : Nat) : Out :=
  match x with
  | .pointer (some ⟨i, 0, none⟩) => match H.get i with
    | some (.sit s pos) => if lo ≤ i then (if pos < s.size then
        some (.tuple #[.bool true, goInt pos, .int .i32 (Utf8.decode s pos).1], H.upd i (some (.sit s (pos + (Utf8.decode s pos).2))), n)
        else some (.tuple #[.bool false], H, n)) else none
    | _ => none
  | _ => none

/-- What may come next of a map that is gone through. -/
def cands (es : List MapEntry) (since : Nat) (seen : List Nat) : List (Option MapEntry) :=
  let left := es.filter fun e => !seen.contains e.born
  let old := left.filter fun e => decide (e.born < since)
  let new := left.filter fun e => decide (since ≤ e.born)
  (if old.isEmpty then [none] else []) ++ (old ++ new).map some

def aEntry (x : Value) (H : Heap) (n : Nat) : Out :=
  match x with
  | .pointer (some ⟨i, 0, none⟩) => match H.get i with
    | some (.mit (some m) _ seen stepped) => match H.get m, seen.getLast? with
      | some (.map es clock), some b => if clock = stepped then (match es.find? (fun e => e.born == b) with | some e => some (.tuple #[e.key, e.val], H, n) | none => none) else none
      | _, _ => none
    | _ => none
  | _ => none

def runesL (s : ByteArray) : (bound i : Nat) → List Value
  | 0, _ => []
  | b + 1, i => if i < s.size then .int .i32 (Int.ofNat (Utf8.decode s i).1) :: runesL s b (i + (Utf8.decode s i).2) else []
def encodeL : List Value → Option ByteArray
  | [] => some .empty
  | .int .i32 k :: r => match encodeL r with | some s => some (Utf8.encode k ++ s) | none => none
  | _ => none
def bytesL : List Value → Option (List UInt8)
  | [] => some []
  | .int .u8 k :: r => match bytesL r with | some s => some (UInt8.ofNat k.toNat :: s) | none => none
  | _ => none
def sliceCells (a : Option Addr) (len : Nat) (H : Heap) : Option (List Value) := match a with | none => some [] | some ⟨i, o, none⟩ => H.read i o len | _ => none
def aConvert (P : Program) (src dst : TypeId) (x : Value) (H : Heap) (n : Nat) : Out :=
  match P.underlying src, P.underlying dst, x with
  | some .string, some (.slice e), .string s =>
    match P.underlying e with
    | some (.int .i32) => some (.slice (some ⟨n, 0, none⟩) (runesL s s.size 0).length 1, H.upd n (some (.cells (runesL s s.size 0) e 1)), n + 1)
    | _ => none
  | some (.slice e), some .string, .slice a len _ =>
    match sliceCells a len H with
    | some cs =>
      match P.underlying e with
      | some (.int .i32) => (match encodeL cs with | some s => some (.string s, H, n) | none => none)
      | some (.int .u8) => (match bytesL cs with | some s => some (.string ⟨s.toArray⟩, H, n) | none => none)
      | _ => none
    | none => none
  | _, _, _ => none

/-- Equality where an address may be on one side: with nil; of pointers to variables that stand. -/
def aEq (P : Program) (t : TypeId) (x y : Value) (H : Heap) : Option Bool :=
  match P.underlying t, x, y with
  | some (.pointer _), .pointer a, .pointer none => some a.isNone
  | some (.pointer _), .pointer none, .pointer b => some b.isNone
  | some (.pointer e), .pointer (some ⟨i, o, none⟩), .pointer (some ⟨j, p, none⟩) => if szOf P e = 0 then none else
    if i = j then some (decide (o = p)) else
    match H.get i, H.get j with
    | some (.cells _ _ _), some (.cells _ _ _) => some false
    | _, _ => none
  | some (.slice _), .slice a _ _, .slice none _ _ => some a.isNone
  | some (.slice _), .slice none _ _, .slice b _ _ => some b.isNone
  | some (.map _ _), .map a, .map none => some a.isNone
  | some (.map _ _), .map none, .map b => some b.isNone
  | some (.func _ _ _), .func _ _ _, .nilFunc => some false
  | some (.func _ _ _), .nilFunc, .func _ _ _ => some false
  | some (.func _ _ _), .nilFunc, .nilFunc => some true
  | _, _, _ => none

def aBin (P : Program) (op : BinOp) (t : TypeId) (x y : Value) (H : Heap) : Option Value :=
  match op with
  | .eql => match aEq P t x y H with | some b => some (.bool b) | none => none
  | .neq => match aEq P t x y H with | some b => some (.bool !b) | none => none
  | _ => none

def aTypeAssert (P : Program) (x : Value) (xt asserted : TypeId) (ok : Bool) : Option Value :=
  match P.underlying asserted with
  | some (.interface _) => none
  | some _ => match x with
    | .iface t v => if t = asserted then some (if ok then .tuple #[v, .bool true] else v) else if ok then (match zeroOf P asserted with | some z => some (.tuple #[z, .bool false]) | none => none) else none
    | .nilIface => if ok then (match zeroOf P asserted with | some z => some (.tuple #[z, .bool false]) | none => none) else none
    | _ => none
  | none => none

/-- A variable of no size. -/
def aStore0 (P : Program) (t : TypeId) (a v : Value) (H : Heap) (n : Nat) : Out :=
  match a with
  | .pointer (some ⟨i, o, none⟩) => if (P.underlying t).isSome = true ∧ szOf P t = 0 ∧ v.cells.toList.length = 0 then some (undef, H, n) else none
  | _ => none

/-- The struct's first field is of that type: its place is the struct's own. -/
def firstOf (P : Program) (t u : TypeId) : Bool := match P.underlying t with
  | some (.struct fs) => (match fs[0]? with | some f => f.type == u && f.offset == 0 | none => false) && !P.stoodInHeld t
  | _ => false
/-- A pointer as an unsafe one, and back: of a whole variable. -/
def aConvPtr (P : Program) (s d : TypeId) (x : Value) (H : Heap) (n : Nat) : Out :=
  match P.underlying s, P.underlying d, x with
  | some (.pointer t), some .unsafePointer, .pointer (some ⟨i, 0, none⟩) => match H.get i with
    | some (.cells (_ :: _) _ _) => if szOf P t = 0 then none else some (x, H, n)
    | _ => none
  | some .unsafePointer, some (.pointer u), .pointer (some ⟨i, 0, none⟩) => match H.get i with
    | some (.cells vs t _) => if (t = u ∨ firstOf P t u = true) ∧ 0 < szOf P u ∧ 0 < szOf P t ∧ szOf P t ≤ vs.length then some (x, H, n) else none
    | _ => none
  | _, _, _ => none

def bytes2 : List Value → Option (List UInt8)
  | [] => some []
  | .int .u8 k :: r => if 0 ≤ k ∧ k < 256 then (match bytes2 r with | some s => some (UInt8.ofNat k.toNat :: s) | none => none) else none
  | _ => none
def aSliceData (x : Value) (H : Heap) (n : Nat) : Out :=
  match x with
  | .slice none _ _ => some (.pointer none, H, n)
  | .slice (some ⟨i, o, none⟩) (_ + 1) _ => some (ptr i o, H, n)
  | _ => none
/-- unsafe.String: what it is made of is not looked at any more. -/
def aUnsafeString (P : Program) (lo : Nat) (pt : TypeId) (x k : Value) (H : Heap) (n : Nat) : Out :=
  match x, k with
  | .pointer _, .int .i64 0 => some (.string .empty, H, n)
  | .pointer (some ⟨i, 0, none⟩), .int .i64 k => match H.get i with
    | some (.cells vs t _) => match readL vs 0 k.toNat with
      | some cs => match bytes2 cs with
        | some l => (match P.underlying pt with
          | some (.pointer u) => if lo ≤ i ∧ u = t ∧ szOf P t = 1 ∧ 0 < k ∧ k ≤ 9223372036854775807 then some (.string ⟨l.toArray⟩, H.upd i none, n) else none
          | _ => none)
        | none => none
      | none => none
    | _ => none
  | _, _ => none
def aCap (P : Program) (t : TypeId) (x : Value) (H : Heap) (n : Nat) : Out :=
  match P.underlying t, x with
  | some (.slice _), .slice none _ _ => some (goInt 0, H, n)
  | some (.slice _), .slice (some ⟨_, _, none⟩) _ 0 => some (goInt 0, H, n)
  | some (.array k _), _ => some (goInt k, H, n)
  | _, _ => none

def okV (v : Option Value) (H : Heap) (n : Nat) : Out := match v with | some v => some (v, H, n) | none => none

/-- Operations on values without addresses: by the model's own text. -/
def aRigid (P : Program) (o : Oper) (E : Operand → Value) (H : Heap) (n : Nat) : Out :=
  if o.op.operands.toList.all (fun x => rigid (E x)) then
    match pv P (execOp E o) with
    | some (.value v) => if rigid v then some (v, H, n) else none
    | _ => none
  else none

def aOp (P : Program) (lo : Nat) (o : Oper) (E : Operand → Value) (H : Heap) (n : Nat) : Out :=
  match o.op with
  | .move x | .assign x => some (E x, H, n)
  | .pick c a b => match E c with | .bool t => some (if t then E a else E b, H, n) | _ => none
  | .alloc t => aAlloc P t H n (zeroOf P t)
  | .box t x => aAlloc P t H n (some (E x))
  | .build t parts => okV (aBuild P t (parts.toList.map fun (i, x) => (i, E x))) H n
  | .buildSlice t len parts => aBuildSlice P t len (parts.toList.map fun (i, x) => (i, E x)) H n
  | .load t a => aLoad P t (E a) H n
  | .store t a x => match aStore P lo t (E a) (E x) H n with | some r => some r | none => aStore0 P t (E a) (E x) H n
  | .nilCheck x => match E x with | .pointer (some _) => some (E x, H, n) | _ => none
  | .binOp op t x y _ => match aBin P op t (E x) (E y) H with | some v => some (v, H, n) | none => aRigid P o E H n
  | .convert s d x => match aConvert P s d (E x) H n with | some r => some r | none => (match aConvPtr P s d (E x) H n with | some r => some r | none => aRigid P o E H n)
  | .makeInterface t x => match P.underlying t with | some (.interface _) | none => none | some _ => some (.iface t (E x), H, n)
  | .makeFunc f a b => if notYield f then some (.func f (a.map E) (b.map E), H, n) else none
  | .makeMap t r => match r with | none => some (.map (some n), H.upd n (some (.map [] 0)), n + 1) | some _ => none
  | .makeSlice t l c => aMakeSlice P t (E l) (E c) H n
  | .slice t x l h m => match aSlice P t (E x) (l.map E) (h.map E) (m.map E) with | some v => some (v, H, n) | none => (match aSliceArr P t (E x) (l.map E) (h.map E) (m.map E) with | some v => some (v, H, n) | none => aRigid P o E H n)
  | .fieldAddr t x f => okV (aFieldAddr P t (E x) f) H n
  | .field t x f => okV (aField P t (E x) f) H n
  | .indexAddr t x j => okV (aIndexAddr P t (E x) (E j)) H n
  | .index t x j => match aIndexAgg P t (E x) (E j) with | some v => some (v, H, n) | none => aRigid P o E H n
  | .lookup t m k ok => aLookup P t (E m) (E k) ok H n
  | .mapUpdate t m k v | .insert t m k v => aMapUpdate P lo t (E m) (E k) (E v) H n
  | .mapEntry t m k => aMapEntry P lo t (E m) (E k) H n
  | .entryStore _ m b v => aEntryStore lo (E m) (E b) (E v) H n
  | .range t x => aRange P t (E x) H n
  | .next x true => aNextS lo (E x) H n
  | .entry x => aEntry (E x) H n
  | .typeAssert x xt t ok => okV (aTypeAssert P (E x) xt t ok) H n
  | .extract x j => match E x with | .tuple vs => okV vs[j]? H n | _ => none
  | .unOp _ _ _ => aRigid P o E H n
  | .call { callee := .builtin b, args, argTypes } =>
    match b, args.toList, argTypes.toList with
    | .len, [x], [t] => aLen P t (E x) H n
    | .append, [s, x], [t, u] => (match P.underlying u with | some (.int _) => none | none => none | some _ => aAppend P lo t (E s) (E x) H n)
    | .copy, [d, x], t :: _ => aCopy P lo t (E d) (E x) H n
    | .clear, [x], [t] => aClear P lo t (E x) H n
    | .delete, [m, k], t :: _ => aDelete P lo t (E m) (E k) H n
    | .cap, [x], [t] => aCap P t (E x) H n
    | .unsafeSliceData, [x], _ => aSliceData (E x) H n
    | .unsafeString, [x, k], [pt, _] => aUnsafeString P lo pt (E x) (E k) H n
    | _, _, _ => aRigid P o E H n
  | _ => none

end
end Go.AL
