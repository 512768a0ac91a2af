/- Quick ways for the commonest operations on plain values, for the kernel. -/
import Derived.Test.YtonhkjkdmfaodaaGreatDoorALFrame
import Derived.IntWalk
set_option linter.unusedVariables false
set_option linter.unusedSimpArgs false
namespace Go.AL
open Go.RowKit
noncomputable section

def ltN (a b : Nat) : Bool := Nat.ble (Nat.succ a) b
def intEqb : Int → Int → Bool
  | .ofNat a, .ofNat b => Nat.beq a b
  | .negSucc a, .negSucc b => Nat.beq a b
  | _, _ => false
def intLtb : Int → Int → Bool
  | .ofNat a, .ofNat b => ltN a b
  | .ofNat _, .negSucc _ => false
  | .negSucc _, .ofNat _ => true
  | .negSucc a, .negSucc b => ltN b a
theorem ltN_eq (a b : Nat) : ltN a b = decide (a < b) := by
  rw [Bool.eq_iff_iff, decide_eq_true_eq]; unfold ltN; rw [Nat.ble_eq]; exact Iff.rfl
theorem intEqb_eq (a b : Int) : intEqb a b = (a == b) := by
  rw [Bool.eq_iff_iff, beq_iff_eq]
  cases a <;> cases b <;> simp [intEqb]
  exact ⟨fun h => by rw [h], fun h => by omega⟩
theorem intLtb_eq (a b : Int) : intLtb a b = decide (a < b) := by
  rw [Bool.eq_iff_iff, decide_eq_true_eq]
  cases a <;> cases b <;> simp only [intLtb, ltN_eq, decide_eq_true_eq] <;> first | (simp; omega) | (simp) | skip
  all_goals omega
def limP : IntKind → Nat
  | .i8 => 128 | .i16 => 32768 | .i32 => 2147483648 | .i64 => 9223372036854775808
  | .u8 => 256 | .u16 => 65536 | .u32 => 4294967296 | .u64 => 18446744073709551616
def limN : IntKind → Nat
  | .i8 => 128 | .i16 => 32768 | .i32 => 2147483648 | .i64 => 9223372036854775808
  | _ => 0
def wrapF (k : IntKind) : Int → Int
  | .ofNat m => match ltN m (limP k) with
    | true => .ofNat m
    | false => k.wrap (.ofNat m)
  | .negSucc m => match ltN m (limN k) with
    | true => .negSucc m
    | false => k.wrap (.negSucc m)
theorem wrapF_eq (k : IntKind) (n : Int) : wrapF k n = k.wrap n := by
  cases n with
  | ofNat m =>
    simp only [wrapF]
    split
    · rename_i h
      rw [ltN_eq, decide_eq_true_eq] at h
      have e : Int.ofNat m = (m : Int) := rfl
      rw [e]
      cases k <;> simp only [limP] at h
      · rw [IntWalk.i8_in _ (by omega)]
      · rw [IntWalk.i16_in _ (by omega)]
      · rw [IntWalk.i32_in _ (by omega)]
      · rw [IntWalk.i64_in _ (by omega)]
      · rw [IntWalk.u8_in _ (by omega)]
      · rw [IntWalk.u16_in _ (by omega)]
      · rw [IntWalk.u32_in _ (by omega)]
      · rw [IntWalk.u64_in _ (by omega)]
    · rfl
  | negSucc m =>
    simp only [wrapF]
    split
    · rename_i h
      rw [ltN_eq, decide_eq_true_eq] at h
      cases k <;> simp only [limN] at h
      · rw [IntWalk.i8_in _ (by omega)]
      · rw [IntWalk.i16_in _ (by omega)]
      · rw [IntWalk.i32_in _ (by omega)]
      · rw [IntWalk.i64_in _ (by omega)]
      all_goals omega
    · rfl
/-- The number is worked out here. -/
def forced (k : IntKind) : Int → Value
  | .ofNat m => match Nat.beq m 0 with
    | true => .int k (.ofNat 0)
    | false => .int k (.ofNat m)
  | .negSucc m => match Nat.beq m 0 with
    | true => .int k (.negSucc 0)
    | false => .int k (.negSucc m)
theorem forced_eq (k : IntKind) (n : Int) : forced k n = .int k n := by
  cases n <;> simp only [forced] <;> split <;> rename_i h <;> first | rfl | (have := Nat.eq_of_beq_eq_true h; subst this; rfl)
def bytesEqL : List UInt8 → List UInt8 → Bool
  | [], [] => true
  | a :: x, b :: y => match Nat.beq a.toNat b.toNat with
    | true => bytesEqL x y
    | false => false
  | _, _ => false
theorem bytesEqL_eq : ∀ (x y : List UInt8), bytesEqL x y = (x == y)
  | [], [] => rfl
  | [], _ :: _ => rfl
  | _ :: _, [] => rfl
  | a :: x, b :: y => by
    simp only [bytesEqL]
    split
    · rename_i h
      have : a = b := by simpa [UInt8.toNat_inj] using h
      subst this
      rw [bytesEqL_eq x y]; simp
    · rename_i h
      have : ¬ a = b := by rintro rfl; simp at h
      simp [this]
def bytesLtL : List UInt8 → List UInt8 → Bool
  | _, [] => false
  | [], _ :: _ => true
  | a :: x, b :: y => match ltN a.toNat b.toNat with
    | true => true
    | false => match Nat.beq a.toNat b.toNat with
      | true => bytesLtL x y
      | false => false
theorem bytesLtL_eq : ∀ (x y : List UInt8), bytesLtL x y = Op.bytesLess x y
  | [], [] => rfl
  | _ :: _, [] => rfl
  | [], _ :: _ => rfl
  | a :: x, b :: y => by
    simp only [bytesLtL, Op.bytesLess]
    rw [bytesLtL_eq x y, ltN_eq]
    have h1 : (a < b) ↔ a.toNat < b.toNat := UInt8.lt_iff_toNat_lt
    have h2 : (a == b) = Nat.beq a.toNat b.toNat := by rw [Bool.eq_iff_iff]; simp [UInt8.toNat_inj]
    rw [h2]
    by_cases h : a.toNat < b.toNat
    · simp [h, h1]
    · simp only [h, h1, decide_false, Bool.false_or]
      cases Nat.beq a.toNat b.toNat <;> rfl
def appB (a b : ByteArray) : ByteArray := ⟨⟨a.data.toList ++ b.data.toList⟩⟩
theorem appB_eq (a b : ByteArray) : appB a b = a ++ b := by
  cases a; cases b
  apply ByteArray.ext
  simp [appB]

def kindEq : IntKind → IntKind → Bool
  | .i8, .i8 | .i16, .i16 | .i32, .i32 | .i64, .i64 | .u8, .u8 | .u16, .u16 | .u32, .u32 | .u64, .u64 => true
  | _, _ => false
theorem kindEq_eq {a b : IntKind} (h : kindEq a b = true) : a = b := by cases a <;> cases b <;> first | rfl | cases h

def fBin (op : BinOp) (x y : Value) : Option Value :=
  match x, y with
  | .int k a, .int k' b => match kindEq k k' with
    | true => (match op with
      | .add => some (forced k (wrapF k (a + b)))
      | .sub => some (forced k (wrapF k (a - b)))
      | .mul => some (forced k (wrapF k (a * b)))
      | .eql => some (.bool (intEqb a b))
      | .neq => some (.bool (!intEqb a b))
      | .lss => some (.bool (intLtb a b))
      | .leq => some (.bool (!intLtb b a))
      | .gtr => some (.bool (intLtb b a))
      | .geq => some (.bool (!intLtb a b))
      | _ => none)
    | false => none
  | .string a, .string b => (match op with
    | .eql => some (.bool (bytesEqL a.data.toList b.data.toList))
    | .neq => some (.bool (!bytesEqL a.data.toList b.data.toList))
    | .lss => some (.bool (bytesLtL a.data.toList b.data.toList))
    | .gtr => some (.bool (!(bytesLtL a.data.toList b.data.toList || bytesEqL a.data.toList b.data.toList)))
    | .add => (match ltN 1073741824 (a.data.toList.length + b.data.toList.length) with | true => none | false => some (.string (appB a b)))
    | _ => none)
  | _, _ => none
def fUn (op : UnOp) (x : Value) : Option Value :=
  match op, x with
  | .not, .bool true => some (.bool false)
  | .not, .bool false => some (.bool true)
  | _, _ => none

theorem ByteArray_toList (a : ByteArray) : a.toList = a.data.toList := by simp [ByteArray.toList_eq]

theorem fBin_aBin {P : Program} {op : BinOp} {t : TypeId} {x y v : Value} {H : Heap} (h : fBin op x y = some v) : aBin P op t x y H = none := by
  unfold fBin at h
  split at h
  · cases op <;> simp [aBin, aEq]
  · cases op <;> simp [aBin, aEq]
  · cases h

theorem fBin_ok {P : Program} {op : BinOp} {t : TypeId} {x y v : Value} (h : fBin op x y = some v) : pv P (binOp op t x y) = some v ∧ rigid x = true ∧ rigid y = true ∧ rigid v = true := by
  unfold fBin at h
  split at h
  · rename_i k a k' b
    split at h
    case h_2 => cases h
    rename_i hk
    have := kindEq_eq hk
    subst this
    cases op <;> simp only [Option.some.injEq, reduceCtorEq] at h <;> subst h <;> (try rw [forced_eq, wrapF_eq]) <;> refine ⟨?_, rfl, rfl, rfl⟩ <;> (try rfl)
    all_goals simp [binOp, Op.intCmp, Op.intArith, pv, intEqb_eq, intLtb_eq, bne, Pure.pure]
    all_goals (rw [Bool.eq_iff_iff]; simp)
  · rename_i a b
    cases op <;> simp only [Option.some.injEq, reduceCtorEq] at h
    case add =>
      split at h
      · cases h
      rename_i hl
      cases h
      rw [ltN_eq] at hl
      simp only [decide_eq_false_iff_not, Array.length_toList] at hl
      refine ⟨?_, rfl, rfl, rfl⟩
      rw [appB_eq]
      have hlt : ¬ (((a.size + b.size : Nat) : Int) > IntKind.i64.max) := by
        have e1 : a.size = a.data.size := rfl
        have e2 : b.size = b.data.size := rfl
        simp [IntKind.max, IntKind.signed, IntKind.bits]; omega
      simp only [binOp, Op.stringOp, hlt, if_false]
      rfl
    all_goals
      subst h
      refine ⟨?_, rfl, rfl, rfl⟩
      simp [binOp, Op.stringOp, pv, bytesEqL_eq, bytesLtL_eq, ByteArray_toList, Pure.pure]
  · cases h

theorem pv_bind {α β : Type} {P : Program} {s : Sem α} {f : α → Sem β} {a : α} (h : pv P s = some a) : pv P (s >>= f) = pv P (f a) := by
  have key : ∀ (s : Sem α), pv P s = some a → pv P (Sem.bind s f) = pv P (f a) := by
    intro s
    induction s with
    | pure b => intro h; simp only [pv, Option.some.injEq] at h; subst h; rfl
    | program k ih => intro h; simp only [pv] at h; exact ih P h
    | _ => intro h; simp [pv] at h
  exact key s h

theorem fBin_guard {P : Program} {op : BinOp} {t : TypeId} {X Y : Operand} {x y v : Value} (h : fBin op x y = some v) : pv P (eqGuard op t X Y x y) = some () := by
  unfold fBin at h
  split at h
  · unfold eqGuard; split <;> rfl
  · unfold eqGuard; split <;> rfl
  · cases h

/-- An operation, by a quick way where there is one. -/
def eOp (P : Program) (o : Oper) (E : Operand → Value) (H : Heap) (n : Nat) : Out :=
  match o.op with
  | .binOp op _ x y _ => (match fBin op (E x) (E y) with
    | some v => some (v, H, n)
    | none => aOp P 0 o E H n)
  | .unOp op _ x => (match fUn op (E x) with
    | some v => some (v, H, n)
    | none => aOp P 0 o E H n)
  | _ => aOp P 0 o E H n

theorem eOp_ok {P : Program} {o : Oper} {E : Operand → Value} {H H' : Heap} {n n' : Nat} {v : Value} (h : eOp P o E H n = some (v, H', n')) : aOp P 0 o E H n = some (v, H', n') := by
  obtain ⟨dst, op, ty, pos, after, guard⟩ := o
  unfold eOp at h
  split at h
  · rename_i op t x y t2 ho
    simp only at ho
    subst ho
    split at h
    · rename_i v' hf
      cases h
      obtain ⟨h1, h2, h3, h4⟩ := fBin_ok (P := P) (t := t) hf
      simp only [aOp, fBin_aBin hf, aRigid, Op.operands]
      have hp : pv P (execOp E { dst := dst, op := .binOp op t x y t2, type := ty, pos := pos, after := after, guard := guard }) = some (.value v) := by
        simp only [execOp]
        rw [pv_bind (a := v) (by rw [pv_bind (fBin_guard hf)]; exact h1)]
        rfl
      rw [hp]
      simp [h2, h3, h4]
    · exact h
  · rename_i op t x ho
    simp only at ho
    subst ho
    split at h
    · rename_i v' hf
      cases h
      unfold fUn at hf
      split at hf
      · rename_i hx; cases hf; simp only [aOp, aRigid, Op.operands]; simp [hx, rigid, sc2, sc1, sc0, execOp, pv, Op.unary, Bind.bind, Sem.bind, Pure.pure]
      · rename_i hx; cases hf; simp only [aOp, aRigid, Op.operands]; simp [hx, rigid, sc2, sc1, sc0, execOp, pv, Op.unary, Bind.bind, Sem.bind, Pure.pure]
      · cases hf
    · exact h
  · exact h

end
end Go.AL
