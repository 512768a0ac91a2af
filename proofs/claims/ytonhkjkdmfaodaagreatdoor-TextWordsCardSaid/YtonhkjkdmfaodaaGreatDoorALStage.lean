/- The evaluator, staged: what hangs on the text alone is worked out once (the kernel keeps it), behind structures. -/
import Derived.Test.YtonhkjkdmfaodaaGreatDoorALTabs
set_option linter.unusedVariables false
set_option linter.unusedSimpArgs false
namespace Go.AL
open Go.RowKit
noncomputable section

structure OR where
  v : Value
  H : Heap
  n : Nat
  m : Nat
structure VF where
  get : VT → Value
structure PF where
  put : VT → Value → VT
structure OpF where
  run : VT → Heap → Nat → Nat → Option OR
structure CF where
  run : Eval → VT → List Nat → Heap → Nat → Nat → Option R

/-! ### Temporaries by a path -/
def vGet (f : Nat) : Nat → VF :=
  Nat.rec (motive := fun _ => Nat → VF) (fun _ => ⟨fun _ => undef⟩) (fun _ ih i =>
    Bool.rec (motive := fun _ => VF) (Bool.rec (motive := fun _ => VF)
      ⟨fun t => VT.rec (motive := fun _ => Value) undef (fun _ _ r _ _ => (ih (Nat.sub (Nat.div i 2) 1)).get r) t⟩
      ⟨fun t => VT.rec (motive := fun _ => Value) undef (fun _ l _ _ _ => (ih (Nat.div i 2)).get l) t⟩ (Nat.beq (Nat.mod i 2) 1))
      ⟨fun t => VT.rec (motive := fun _ => Value) undef (fun v _ _ _ _ => v) t⟩ (Nat.beq i 0)) f
theorem vGet_succ (f i : Nat) : vGet (f + 1) i = if i = 0 then ⟨fun t => VT.rec (motive := fun _ => Value) undef (fun v _ _ _ _ => v) t⟩ else if i % 2 = 1 then ⟨fun t => VT.rec (motive := fun _ => Value) undef (fun _ l _ _ _ => (vGet f (i / 2)).get l) t⟩ else ⟨fun t => VT.rec (motive := fun _ => Value) undef (fun _ _ r _ _ => (vGet f (i / 2 - 1)).get r) t⟩ := by
  show Bool.rec (motive := fun _ => VF) (Bool.rec (motive := fun _ => VF) ⟨fun t => VT.rec (motive := fun _ => Value) undef (fun _ _ r _ _ => (vGet f (i / 2 - 1)).get r) t⟩ ⟨fun t => VT.rec (motive := fun _ => Value) undef (fun _ l _ _ _ => (vGet f (i / 2)).get l) t⟩ (Nat.beq (i % 2) 1)) ⟨fun t => VT.rec (motive := fun _ => Value) undef (fun v _ _ _ _ => v) t⟩ (Nat.beq i 0) = _
  rw [brec_if, brec_if]
theorem vGet_eq : ∀ (f i : Nat) (t : VT), i < f → (vGet f i).get t = t.get i := by
  intro f
  induction f with
  | zero => intro i t h; omega
  | succ f ih =>
    intro i t h
    rw [vGet_succ]
    cases t with
    | nil => rw [VT.get_nil]; split
             · rfl
             · split <;> rfl
    | node v l r =>
      rw [VT.get_node]
      split
      · rfl
      · split
        · exact ih _ _ (by omega)
        · exact ih _ _ (by omega)
def vPut (f : Nat) : Nat → PF :=
  Nat.rec (motive := fun _ => Nat → PF) (fun _ => ⟨fun t _ => t⟩) (fun _ ih i =>
    Bool.rec (motive := fun _ => PF) (Bool.rec (motive := fun _ => PF)
      ⟨fun t b => VT.rec (motive := fun _ => VT) (.node undef .nil ((ih (Nat.sub (Nat.div i 2) 1)).put .nil b)) (fun v l r _ _ => .node v l ((ih (Nat.sub (Nat.div i 2) 1)).put r b)) t⟩
      ⟨fun t b => VT.rec (motive := fun _ => VT) (.node undef ((ih (Nat.div i 2)).put .nil b) .nil) (fun v l r _ _ => .node v ((ih (Nat.div i 2)).put l b) r) t⟩ (Nat.beq (Nat.mod i 2) 1))
      ⟨fun t b => VT.rec (motive := fun _ => VT) (.node b .nil .nil) (fun _ l r _ _ => .node b l r) t⟩ (Nat.beq i 0)) f
theorem vPut_succ (f i : Nat) : vPut (f + 1) i = if i = 0 then ⟨fun t b => VT.rec (motive := fun _ => VT) (.node b .nil .nil) (fun _ l r _ _ => .node b l r) t⟩ else if i % 2 = 1 then ⟨fun t b => VT.rec (motive := fun _ => VT) (.node undef ((vPut f (i / 2)).put .nil b) .nil) (fun v l r _ _ => .node v ((vPut f (i / 2)).put l b) r) t⟩ else ⟨fun t b => VT.rec (motive := fun _ => VT) (.node undef .nil ((vPut f (i / 2 - 1)).put .nil b)) (fun v l r _ _ => .node v l ((vPut f (i / 2 - 1)).put r b)) t⟩ := by
  show Bool.rec (motive := fun _ => PF) (Bool.rec (motive := fun _ => PF) ⟨fun t b => VT.rec (motive := fun _ => VT) (.node undef .nil ((vPut f (i / 2 - 1)).put .nil b)) (fun v l r _ _ => .node v l ((vPut f (i / 2 - 1)).put r b)) t⟩ ⟨fun t b => VT.rec (motive := fun _ => VT) (.node undef ((vPut f (i / 2)).put .nil b) .nil) (fun v l r _ _ => .node v ((vPut f (i / 2)).put l b) r) t⟩ (Nat.beq (i % 2) 1)) ⟨fun t b => VT.rec (motive := fun _ => VT) (.node b .nil .nil) (fun _ l r _ _ => .node b l r) t⟩ (Nat.beq i 0) = _
  rw [brec_if, brec_if]
theorem vPut_eq : ∀ (f i : Nat) (t : VT) (b : Value), (vPut f i).put t b = t.set f i b := by
  intro f
  induction f with
  | zero => intro i t b; rfl
  | succ f ih =>
    intro i t b
    rw [vPut_succ]
    cases t with
    | nil =>
      rw [VT.set_nil]
      split
      · rfl
      · split
        · show VT.node undef ((vPut f (i / 2)).put .nil b) .nil = _; rw [ih]
        · show VT.node undef .nil ((vPut f (i / 2 - 1)).put .nil b) = _; rw [ih]
    | node v l r =>
      rw [VT.set_node]
      split
      · rfl
      · split
        · show VT.node v ((vPut f (i / 2)).put l b) r = _; rw [ih]
        · show VT.node v l ((vPut f (i / 2 - 1)).put r b) = _; rw [ih]
def opd : Operand → VF
  | .tmp t => vGet (t + 1) t
  | .const v => ⟨fun _ => v⟩
  | .global g => ⟨fun _ => ptr g 0⟩
  | .func f => ⟨fun _ => .func (.func f) #[] #[]⟩
theorem opd_eq (x : Operand) (E : VT) : (opd x).get E = ev E.fn x := by
  cases x with
  | tmp t => exact vGet_eq (t + 1) t E (by omega)
  | const v => rfl
  | global g => rfl
  | func f => rfl
def putF : Option Tmp → PF
  | some d => vPut (d + 1) d
  | none => ⟨fun t _ => t⟩
theorem putF_eq (d : Option Tmp) (E : VT) (v : Value) : (putF d).put E v = E.put d v := by
  cases d with
  | none => rfl
  | some d => exact vPut_eq (d + 1) d E v

/-! ### Operations -/
def kV (v : Option Value) (H : Heap) (n m : Nat) : Option OR := Option.rec (motive := fun _ => Option OR) none (fun v => some ⟨v, H, n, m⟩) v
def kOut (r : Out) (m : Nat) : Option OR := Option.rec (motive := fun _ => Option OR) none (fun r => some ⟨r.1, norm r.2.1, r.2.2, m⟩) r
def kInt2 (f : IntKind → Int → Int → Value) (x y : Value) (H : Heap) (n m : Nat) (d : Option OR) : Option OR :=
  match x with
  | .int k a => (match y with
    | .int k' b => Bool.rec (motive := fun _ => Option OR) d (some ⟨f k a b, H, n, m⟩) (kindEq k k')
    | _ => d)
  | _ => d
def kPick (c a b : Value) (H : Heap) (n m : Nat) : Option OR := match c with
  | .bool t => Bool.rec (motive := fun _ => Option OR) (some ⟨b, H, n, m⟩) (some ⟨a, H, n, m⟩) t
  | _ => none
def nthV : List Value → Nat → Option Value := List.rec (motive := fun _ => Nat → Option Value) (fun _ => none) (fun v _ ih i => Nat.rec (motive := fun _ => Option Value) (some v) (fun j _ => ih j) i)
theorem nthV_eq : ∀ (l : List Value) (i : Nat), nthV l i = l[i]?
  | [], i => rfl
  | v :: r, 0 => rfl
  | v :: r, i + 1 => by show nthV r i = _; rw [nthV_eq r i]; simp
def kExt (x : Value) (j : Nat) (H : Heap) (n m : Nat) : Option OR := match x with
  | .tuple vs => kV (nthV vs.toList j) H n m
  | _ => none
def kLoad1 (x : Value) (H : Heap) (n m : Nat) : Option OR := match x with
  | .pointer (some a) => (match a.spot with
    | none => (match H.get a.block with
      | some (.cells vs _ _) => kV (nthV vs a.off) H n m
      | some (.ro vs) => kV (nthV vs a.off) H n m
      | _ => none)
    | some _ => none)
  | _ => none
def kNot (x : Value) (H : Heap) (n m : Nat) : Option OR := match x with
  | .bool b => some ⟨.bool (not b), H, n, m⟩
  | _ => none
def kDef (r : Out) (m : Nat) (wr : Option Nat) : Option OR := Option.rec (motive := fun _ => Option OR) none (fun r => some ⟨r.1, norm r.2.1, r.2.2, minO m wr⟩) r
def aStoreK (P : Program) (t : TypeId) (a x : Value) (H : Heap) (n : Nat) : Out := match aStore P 0 t a x H n with | some r => some r | none => aStore0 P t a x H n
def intF : BinOp → Option (IntKind → Int → Int → Value)
  | .add => some fun k a b => forced k (wrapF k (a + b))
  | .sub => some fun k a b => forced k (wrapF k (a - b))
  | .mul => some fun k a b => forced k (wrapF k (a * b))
  | .eql => some fun k a b => .bool (intEqb a b)
  | .neq => some fun k a b => .bool (!intEqb a b)
  | .lss => some fun k a b => .bool (intLtb a b)
  | .leq => some fun k a b => .bool (!intLtb b a)
  | .gtr => some fun k a b => .bool (intLtb b a)
  | .geq => some fun k a b => .bool (!intLtb a b)
  | _ => none
theorem intF_ok {op : BinOp} {f : IntKind → Int → Int → Value} (h : intF op = some f) (k k' : IntKind) (a b : Int) (hk : kindEq k k' = true) : fBin op (.int k a) (.int k' b) = some (f k a b) := by
  cases op <;> simp only [intF, Option.some.injEq, reduceCtorEq] at h <;> subst h <;> simp [fBin, hk]

/-- An operation. -/
def opF (P : Program) (o : Oper) : OpF :=
  match o.op with
  | .move x | .assign x => ⟨fun E H n m => some ⟨(opd x).get E, H, n, m⟩⟩
  | .pick c a b => ⟨fun E H n m => kPick ((opd c).get E) ((opd a).get E) ((opd b).get E) H n m⟩
  | .binOp op _ x y _ => (match intF op with
    | some f => ⟨fun E H n m => kInt2 f ((opd x).get E) ((opd y).get E) H n m (kDef (eOp P o (ev E.fn) H n) m none)⟩
    | none => ⟨fun E H n m => kDef (eOp P o (ev E.fn) H n) m none⟩)
  | .unOp .not _ x => ⟨fun E H n m => kNot ((opd x).get E) H n m⟩
  | .load t a => (match (P.underlying t).isSome, aggT P t with
    | true, false => ⟨fun E H n m => kLoad1 ((opd a).get E) H n m⟩
    | _, _ => ⟨fun E H n m => kOut (aLoad P t ((opd a).get E) H n) m⟩)
  | .store t a x => ⟨fun E H n m => kDef (aStoreK P t ((opd a).get E) ((opd x).get E) H n) m (wblk ((opd a).get E))⟩
  | .alloc t => ⟨fun _ H n m => kOut (aAlloc P t H n (zeroOf P t)) m⟩
  | .box t x => ⟨fun E H n m => kOut (aAlloc P t H n (some ((opd x).get E))) m⟩
  | .fieldAddr t x f => ⟨fun E H n m => kV (aFieldAddr P t ((opd x).get E) f) H n m⟩
  | .field t x f => ⟨fun E H n m => kV (aField P t ((opd x).get E) f) H n m⟩
  | .indexAddr t x j => ⟨fun E H n m => kV (aIndexAddr P t ((opd x).get E) ((opd j).get E)) H n m⟩
  | .extract x j => ⟨fun E H n m => kExt ((opd x).get E) j H n m⟩
  | .call { callee := .builtin .len, args, argTypes } => (match args.toList, argTypes.toList with
    | [x], [t] => ⟨fun E H n m => kOut (aLen P t ((opd x).get E) H n) m⟩
    | _, _ => ⟨fun E H n m => kDef (eOp P o (ev E.fn) H n) m (wrOf o (ev E.fn))⟩)
  | _ => ⟨fun E H n m => kDef (eOp P o (ev E.fn) H n) m (wrOf o (ev E.fn))⟩

theorem kDef_ok {r : Out} {m : Nat} {wr : Option Nat} {x : OR} {H : Heap} {n : Nat} (hh : H.hid = []) (h : kDef r m wr = some x) (hs : ∀ v H' n', r = some (v, H', n') → H'.hid = H.hid) : r = some (x.v, x.H, x.n) ∧ x.m = minO m wr := by
  cases r with
  | none => cases h
  | some r =>
    obtain ⟨v, H', n'⟩ := r
    cases h
    exact ⟨by rw [norm_eq (by rw [hs _ _ _ rfl]; exact hh)], rfl⟩
theorem kOut_ok {r : Out} {m : Nat} {x : OR} {H : Heap} (hh : H.hid = []) (h : kOut r m = some x) (hs : ∀ v H' n', r = some (v, H', n') → H'.hid = H.hid) : r = some (x.v, x.H, x.n) ∧ x.m = m := by
  cases r with
  | none => cases h
  | some r =>
    obtain ⟨v, H', n'⟩ := r
    cases h
    exact ⟨by rw [norm_eq (by rw [hs _ _ _ rfl]; exact hh)], rfl⟩
theorem kV_ok {v : Option Value} {H : Heap} {n m : Nat} {x : OR} (h : kV v H n m = some x) : okV v H n = some (x.v, x.H, x.n) ∧ x.m = m := by
  cases v with
  | none => cases h
  | some v => cases h; exact ⟨rfl, rfl⟩
theorem eOp_hid {P : Program} {o : Oper} {E : Operand → Value} {H H' : Heap} {n n' : Nat} {v : Value} (h : eOp P o E H n = some (v, H', n')) : H'.hid = H.hid := (w_op (eOp_ok h)).1.hid

theorem opF_ok {P : Program} {o : Oper} {E : VT} {H : Heap} {n m : Nat} {x : OR} (hh : H.hid = []) (h : (opF P o).run E H n m = some x) :
    aOp P 0 o (ev E.fn) H n = some (x.v, x.H, x.n) ∧ x.m = minO m (wrOf o (ev E.fn)) := by
  have dflt : ∀ {wr : Option Nat}, wrOf o (ev E.fn) = wr → kDef (eOp P o (ev E.fn) H n) m wr = some x → aOp P 0 o (ev E.fn) H n = some (x.v, x.H, x.n) ∧ x.m = minO m (wrOf o (ev E.fn)) := by
    intro wr hw h
    have := kDef_ok (n := n) hh h (fun v H' n' e => eOp_hid e)
    exact ⟨eOp_ok this.1, by rw [hw]; exact this.2⟩
  unfold opF at h
  split at h
  · rename_i y ho
    cases h
    exact ⟨by simp only [aOp, ho, opd_eq], by simp only [wrOf, ho]; rfl⟩
  · rename_i y ho
    cases h
    exact ⟨by simp only [aOp, ho, opd_eq], by simp only [wrOf, ho]; rfl⟩
  · rename_i c a b ho
    simp only [opd_eq] at h
    have hw : wrOf o (ev E.fn) = none := by simp only [wrOf, ho]
    rw [hw]
    unfold kPick at h
    split at h
    · rename_i t ht
      cases t with
      | true => cases h; exact ⟨by simp [aOp, ho, ht], rfl⟩
      | false => cases h; exact ⟨by simp [aOp, ho, ht], rfl⟩
    · cases h
  · rename_i op t y z t2 ho
    have hw : wrOf o (ev E.fn) = none := by simp only [wrOf, ho]
    split at h
    · rename_i f hf
      simp only [opd_eq] at h
      unfold kInt2 at h
      split at h
      · rename_i k a hx
        split at h
        · rename_i k' b hy
          cases hk : kindEq k k' with
          | false => rw [hk] at h; exact dflt hw h
          | true =>
            rw [hk] at h
            cases h
            refine ⟨eOp_ok ?_, by rw [hw]; rfl⟩
            simp only [eOp, ho, hx, hy, intF_ok hf k k' a b hk]
        · exact dflt hw h
      · exact dflt hw h
    · exact dflt hw h
  · rename_i t y ho
    simp only [opd_eq] at h
    have hw : wrOf o (ev E.fn) = none := by simp only [wrOf, ho]
    unfold kNot at h
    split at h
    · rename_i b hb
      cases h
      refine ⟨eOp_ok ?_, by rw [hw]; rfl⟩
      cases b <;> simp [eOp, ho, hb, fUn]
    · cases h
  · rename_i t a ho
    have hw : wrOf o (ev E.fn) = none := by simp only [wrOf, ho]
    rw [hw]
    have gen : kOut (aLoad P t (ev E.fn a) H n) m = some x → aOp P 0 o (ev E.fn) H n = some (x.v, x.H, x.n) ∧ x.m = minO m none := by
      intro h
      have := kOut_ok hh h (fun v H' n' e => (p_load (wr := none) e).hid)
      exact ⟨by simp only [aOp, ho]; exact this.1, this.2⟩
    split at h
    · rename_i h1 h2
      simp only [opd_eq] at h
      apply gen
      unfold kLoad1 at h
      split at h
      case h_2 => cases h
      rename_i ad had
      obtain ⟨i, o', sp⟩ := ad
      cases sp with
      | some _ => cases h
      | none =>
        simp only at h
        split at h
        · rename_i vs t' es hg
          have hn : vs[o']? = nthV vs o' := (nthV_eq vs o').symm
          cases hv : nthV vs o' with
          | none => rw [hv] at h; cases h
          | some v =>
            rw [hv] at h hn
            cases h
            simp [aLoad, had, h1, h2, Heap.read, hg, readL, hn, pack, kOut, norm_eq hh]
        · rename_i vs hg
          have hn : vs[o']? = nthV vs o' := (nthV_eq vs o').symm
          cases hv : nthV vs o' with
          | none => rw [hv] at h; cases h
          | some v =>
            rw [hv] at h hn
            cases h
            simp [aLoad, had, h1, h2, Heap.read, hg, readL, hn, pack, kOut, norm_eq hh]
        · cases h
    · simp only [opd_eq] at h
      exact gen h
  · rename_i t a y ho
    simp only [opd_eq] at h
    have hw : wrOf o (ev E.fn) = wblk (ev E.fn a) := by simp only [wrOf, ho]
    have he : aStoreK P t (ev E.fn a) (ev E.fn y) H n = aOp P 0 o (ev E.fn) H n := by simp only [aOp, ho, aStoreK]; rfl
    rw [he] at h
    have := kDef_ok (n := n) hh h (fun v H' n' e => (w_op e).1.hid)
    exact ⟨this.1, by rw [hw]; exact this.2⟩
  · rename_i t ho
    have hw : wrOf o (ev E.fn) = none := by simp only [wrOf, ho]
    have := kOut_ok hh h (fun v H' n' e => (p_alloc (wr := none) e).hid)
    exact ⟨by simp only [aOp, ho]; exact this.1, by rw [hw]; exact this.2⟩
  · rename_i t y ho
    simp only [opd_eq] at h
    have hw : wrOf o (ev E.fn) = none := by simp only [wrOf, ho]
    have := kOut_ok hh h (fun v H' n' e => (p_alloc (wr := none) e).hid)
    exact ⟨by simp only [aOp, ho]; exact this.1, by rw [hw]; exact this.2⟩
  · rename_i t y f ho
    simp only [opd_eq] at h
    have hw : wrOf o (ev E.fn) = none := by simp only [wrOf, ho]
    have := kV_ok h
    exact ⟨by simp only [aOp, ho]; exact this.1, by rw [hw]; exact this.2⟩
  · rename_i t y f ho
    simp only [opd_eq] at h
    have hw : wrOf o (ev E.fn) = none := by simp only [wrOf, ho]
    have := kV_ok h
    exact ⟨by simp only [aOp, ho]; exact this.1, by rw [hw]; exact this.2⟩
  · rename_i t y j ho
    simp only [opd_eq] at h
    have hw : wrOf o (ev E.fn) = none := by simp only [wrOf, ho]
    have := kV_ok h
    exact ⟨by simp only [aOp, ho]; exact this.1, by rw [hw]; exact this.2⟩
  · rename_i y j ho
    simp only [opd_eq] at h
    have hw : wrOf o (ev E.fn) = none := by simp only [wrOf, ho]
    unfold kExt at h
    split at h
    · rename_i vs hv
      rw [nthV_eq, Array.getElem?_toList] at h
      have := kV_ok h
      exact ⟨by simp only [aOp, ho, hv]; exact this.1, by rw [hw]; exact this.2⟩
    · cases h
  · rename_i args tys ho
    split at h
    · rename_i y t hy ht
      simp only [opd_eq] at h
      have hw : wrOf o (ev E.fn) = none := by simp only [wrOf, ho]
      have := kOut_ok hh h (fun v H' n' e => (p_len (wr := none) e).hid)
      exact ⟨by simp only [aOp, ho, hy, ht]; exact this.1, by rw [hw]; exact this.2⟩
    · exact dflt rfl h
  · exact dflt rfl h

end
end Go.AL
