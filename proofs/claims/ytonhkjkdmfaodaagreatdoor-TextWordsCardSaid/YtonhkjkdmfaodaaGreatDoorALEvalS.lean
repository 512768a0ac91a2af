/- The evaluator is sound: its runs are runs of the abstract machine. -/
import Derived.Test.YtonhkjkdmfaodaaGreatDoorALEval
set_option linter.unusedVariables false
set_option linter.unusedSimpArgs false
namespace Go.AL
open Go.RowKit

/-! ### Heaps with nothing hidden -/
theorem Heap.get_upd0 {H : Heap} (h : H.hid = []) (i j : Nat) (b : Option Blk) : (H.upd i b).get j = if j = i then b else H.get j := by
  rw [Heap.get_upd, h]; simp [inRange]
theorem Heap.hid_upd {H : Heap} (i : Nat) (b : Option Blk) : (H.upd i b).hid = H.hid := rfl

theorem Shp.hid {H H' : Heap} {n n' : Nat} {wr : Option Nat} (h : Shp H n wr H' n') : H'.hid = H.hid := by cases h <;> rfl

theorem wipe_hid : ∀ (l : List Nat) (H : Heap), (wipe l H).hid = H.hid
  | [], _ => rfl
  | i :: r, H => by rw [wipe, wipe_hid r]; rfl
theorem wipe_get : ∀ (l : List Nat) (H : Heap) (j : Nat), H.hid = [] → (wipe l H).get j = if l.contains j then none else H.get j
  | [], H, j, h => by simp [wipe]
  | i :: r, H, j, h => by
    rw [wipe, wipe_get r _ j (by rw [Heap.hid_upd]; exact h), Heap.get_upd0 h]
    by_cases e : j = i
    · subst e; simp
    · simp [e]
theorem copyTo_hid (V : Heap) : ∀ (l : List Nat) (H : Heap), (copyTo V l H).hid = H.hid
  | [], _ => rfl
  | i :: r, H => by rw [copyTo, copyTo_hid V r]; rfl
theorem copyTo_get (V : Heap) : ∀ (l : List Nat) (H : Heap) (j : Nat), H.hid = [] → (copyTo V l H).get j = if l.contains j then V.get j else H.get j
  | [], H, j, h => by simp [copyTo]
  | i :: r, H, j, h => by
    rw [copyTo, copyTo_get V r _ j (by rw [Heap.hid_upd]; exact h), Heap.get_upd0 h]
    by_cases e : j = i
    · subst e; simp
    · simp [e]
theorem viewT_get (H : Heap) : ∀ (l : List Nat) (t : Tree) (j : Nat), (viewT H l t).get j = if l.contains j then H.get j else t.get j
  | [], t, j => by simp [viewT]
  | i :: r, t, j => by
    rw [viewT, viewT_get H r, Tree.get_set _ (i + 1) t i j (by omega)]
    by_cases e : j = i
    · subst e; simp
    · simp [e]
theorem view_get (H : Heap) (l : List Nat) (j : Nat) : (view H l).get j = if l.contains j then H.get j else none := by
  simp only [view, Heap.get, inRange, List.any_nil, Bool.false_eq_true, if_false, viewT_get]
  rfl

/-! ### Loops stay -/
def LoopKeep (n : Nat) (H H' : Heap) : Prop := ∀ i El ps asg body st pend, i < n → H.get i = some (.loop El ps asg body st pend) →
  ∃ st' pend', H'.get i = some (.loop El ps asg body st' pend') ∧ (st = .busy → st' = .busy ∧ pend' = pend)
theorem LoopKeep.refl (n : Nat) (H : Heap) : LoopKeep n H H := fun i El ps asg body st pend _ h => ⟨st, pend, h, fun e => ⟨e, rfl⟩⟩
theorem LoopKeep.trans {n n1 : Nat} {H H1 H2 : Heap} (h : LoopKeep n H H1) (k : LoopKeep n1 H1 H2) (hn : n ≤ n1) : LoopKeep n H H2 := by
  intro i El ps asg body st pend hi hb
  obtain ⟨st', pend', h1, h2⟩ := h i El ps asg body st pend hi hb
  obtain ⟨st2, pend2, h3, h4⟩ := k i El ps asg body st' pend' (by omega) h1
  exact ⟨st2, pend2, h3, fun e => by obtain ⟨e1, e2⟩ := h2 e; obtain ⟨e3, e4⟩ := h4 e1; exact ⟨e3, e4.trans e2⟩⟩
theorem LoopKeep.same {n : Nat} {H H' : Heap} (h : ∀ i, i < n → (∃ El ps asg body st pend, H.get i = some (.loop El ps asg body st pend)) → H'.get i = H.get i) : LoopKeep n H H' :=
  fun i El ps asg body st pend hi hb => ⟨st, pend, by rw [h i hi ⟨_, _, _, _, _, _, hb⟩]; exact hb, fun e => ⟨e, rfl⟩⟩
theorem Shp.keep {H H' : Heap} {n n' : Nat} {wr : Option Nat} (h : Shp H n wr H' n') : LoopKeep n H H' :=
  .same fun i hi ⟨_, _, _, _, _, _, hb⟩ => h.loop hi hb rfl

theorem minO_le (m : Nat) (o : Option Nat) : minO m o ≤ m := by
  cases o with
  | none => exact Nat.le_refl _
  | some i => exact Nat.min_le_left _ _
theorem minO_wr {m : Nat} {o : Option Nat} {i : Nat} (h : o = some i) : minO m o ≤ i := by subst h; exact Nat.min_le_right _ _
theorem minL_le : ∀ (l : List Nat) (m : Nat), minL m l ≤ m ∧ ∀ i ∈ l, minL m l ≤ i
  | [], m => ⟨Nat.le_refl _, by simp⟩
  | j :: r, m => by
    have h := minL_le r (Nat.min m j)
    have h1 := Nat.min_le_left m j
    have h2 := Nat.min_le_right m j
    simp only [Nat.min_def] at *
    refine ⟨Nat.le_trans h.1 h1, fun i hi => ?_⟩
    rcases List.mem_cons.1 hi with rfl | hi
    · exact Nat.le_trans h.1 h2
    · exact h.2 i hi

/-! ### What a task shows -/
abbrev visR (r : Rec) (i : Nat) : Prop := visB r i = true
abbrev wrR (r : Rec) (i : Nat) : Prop := wrB r i = true
structure Snap where
  E : VT
  H : Heap
  n : Nat
  v : Value
  Vw : Heap
  V : Heap
  rc : Rec
  ext : Bool

abbrev GivT := Nat → FuncId → Array Value → Heap → Nat → (Value → Heap → Nat → Prop) → Prop

structure OpOk (P : Program) (G : Nat) (Giv : GivT) (lo : Nat) (ops : Array Oper) (o : Oper) (s s' : Snap) : Prop where
  le : s.n ≤ s'.n
  env : s'.E.fn = s.E.fn.put o.dst s.v
  n0 : s.rc.n0 = s.n
  n1 : s.rc.n1 = s'.n
  view : ∀ i b, s.Vw.get i = some b → s.H.get i = some b ∧ visR s.rc i
  low : lo ≤ s.rc.lo
  vlt : ∀ i, visR s.rc i → i < s.n
  keepH : ∀ i, i < s.n → ¬ wrR s.rc i → s'.H.get i = s.H.get i
  newH : ∀ i b, (wrR s.rc i ∨ s.n ≤ i) → s'.H.get i = some b → s.V.get i = some b
  newlt : ∀ i b, s'.H.get i = some b → (s.H.get i).isSome = true ∨ (s.n ≤ i ∧ i < s'.n)
  unw : wantedE ops s.E.fn o = false → s.v = undef ∧ s'.n = s.n ∧ ∀ i, ¬ wrR s.rc i
  prim : wantedE ops s.E.fn o = true → (∀ f args tys, o.op ≠ .call { callee := .value f, args := args, argTypes := tys }) → aOp P s.rc.lo o (ev s.E.fn) s.Vw s.n = some (s.v, s.V, s'.n)
  callf : ∀ f args tys, wantedE ops s.E.fn o = true → o.op = .call { callee := .value f, args := args, argTypes := tys } →
    ∃ g a b fn, ev s.E.fn f = .func (.func g) a b ∧ P.funcs[g]? = some fn ∧
      ((s.ext = false ∧ ∃ c, fn.body = some c) ∨ (s.ext = true ∧ fn.body = none ∧ (Extern.findNext fn).isNone = true ∧ (aExt P fn (a ++ args.map (ev s.E.fn) ++ b) s.Vw s.n = some (s.v, s.V, s'.n) ∨ aMnz P fn (a ++ args.map (ev s.E.fn) ++ b) s.Vw s.n = some (s.v, s.V, s'.n))))
  hc : ∀ f args tys g a b, wantedE ops s.E.fn o = true → o.op = .call { callee := .value f, args := args, argTypes := tys } → s.ext = false → ev s.E.fn f = .func (.func g) a b →
    RCall P G Giv s.rc.lo g (a ++ args.map (ev s.E.fn) ++ b) s.Vw s.n (fun v H' n' => v = s.v ∧ H' = s.V ∧ n' = s'.n)

def Rec.triv (r : Rec) : Prop := (∀ i, ¬ visR r i) ∧ r.n0 = r.n1

def Chain (P : Program) (G : Nat) (Giv : GivT) (lo : Nat) (ops : Array Oper) (fin : Snap) : List (List Nat) → List Oper → List Rec → List Snap → Prop
  | _, [], _, [] => True
  | u :: us, o :: rest, recs, s :: L => OpOk P G Giv lo ops o s (L.headD fin) ∧ (s.rc.triv ∨ pairs recs u s.rc = true) ∧ Chain P G Giv lo ops fin us rest (recs ++ [s.rc]) L
  | _, _, _, _ => False

def exactQ (r : R) : Post := fun x E ds H n => x = r.x ∧ E = r.E.fn ∧ ds = r.ds ∧ H = r.H ∧ n = r.n

def TSem (P : Program) (G : Nat) (Giv : GivT) (lo : Nat) (t : Task) (H : Heap) (n : Nat) (r : R) : Prop :=
  match t with
  | .code top N c E ds => Run P G Giv top lo N c E.fn ds H n (exactQ r)
  | .ops N ops rest E ds => r.x = .normal ∧ r.ds = ds ∧ ROps P G Giv lo N ops rest E.fn H n (fun E' H' n' => E' = r.E.fn ∧ H' = r.H ∧ n' = r.n)
  | .draw ops us rest recs E ds => r.x = .normal ∧ r.ds = ds ∧ ∃ L fin, fin.E = r.E ∧ fin.H = r.H ∧ fin.n = r.n ∧ (L.headD fin).E = E ∧ (L.headD fin).H = H ∧ (L.headD fin).n = n ∧ Chain P G Giv lo ops fin us rest recs L
  | .call f args => RCall P G Giv lo f args H n (fun v H' n' => v = r.v ∧ H' = r.H ∧ n' = r.n)

structure Good (P : Program) (G : Nat) (Giv : GivT) (t : Task) (H : Heap) (n m : Nat) (r : R) : Prop where
  hid : r.H.hid = []
  mle : r.m ≤ m
  grow : Grow H n r.H r.n
  frame : ∀ i, i < r.m → r.H.get i = H.get i
  loop : LoopKeep n H r.H
  sem : ∀ lo, lo ≤ r.m → TSem P G Giv lo t H n r

def Fine (P : Program) (G : Nat) (Giv : GivT) (rec : Eval) : Prop := ∀ t H n m r, Dom H n → H.hid = [] → m ≤ n → rec t H n m = some r → Good P G Giv t H n m r

/-! ### Two records -/
theorem pairB_spec {a b : Rec} (h : pairB a b = true) : (∀ i, a.n0 ≤ i → i < a.n1 → ¬ visR b i) ∧ (∀ i, wrR a i → ¬ visR b i) ∧ (∀ i, wrR b i → ¬ visR a i) := by
  obtain ⟨ca, va, ra, la, a0, a1⟩ := a
  obtain ⟨cb, vb, rb, lb, b0, b1⟩ := b
  cases ca <;> cases cb
  · simp only [pairB, wrB, visB, visR, wrR, List.all_eq_true, Bool.and_eq_true, Bool.not_eq_true', decide_eq_true_eq, Bool.and_eq_false_iff, decide_eq_false_iff_not, List.contains_eq_mem] at *
    refine ⟨fun i h1 h2 h3 => ?_, fun i h1 h2 => ?_, fun i h1 h2 => ?_⟩
    · have := h i h3; omega
    · have := (h i h2).1.2; simp_all
    · have := (h i h1.1).2; simp_all
  · simp only [pairB, wrB, visB, visR, wrR, List.all_eq_true, Bool.and_eq_true, Bool.not_eq_true', decide_eq_true_eq, Bool.and_eq_false_iff, decide_eq_false_iff_not, List.contains_eq_mem, List.mem_range'_1, Bool.or_eq_true] at *
    refine ⟨fun i h1 h2 h3 => ?_, fun i h1 h2 => ?_, fun i h1 h2 => ?_⟩
    · have := h.1 i (by omega); simp_all
    · have := (h.2 i h1.1).1; simp_all; omega
    · have := (h.2 i h2).2; simp_all
  · simp only [pairB, wrB, visB, visR, wrR, List.all_eq_true, Bool.and_eq_true, Bool.not_eq_true', decide_eq_true_eq, Bool.and_eq_false_iff, decide_eq_false_iff_not, List.contains_eq_mem] at *
    refine ⟨fun i h1 h2 h3 => ?_, fun i h1 h2 => ?_, fun i h1 h2 => ?_⟩
    · have := h i h3; omega
    · have := (h i h2).1.2; simp_all
    · have := (h i h1.1).2; simp_all
  · simp [pairB] at h

end Go.AL
