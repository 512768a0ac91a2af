/- What an operation may do to the heap: one new block, one block written. -/
import Derived.Test.YtonhkjkdmfaodaaGreatDoorALBnd
set_option linter.unusedVariables false
set_option linter.unusedSimpArgs false
namespace Go.AL
open Go.RowKit
noncomputable section

variable {P : Program} {lo : Nat} {H H' : Heap} {n n' : Nat}

def wblk : Value → Option Nat
  | .pointer (some a) => some a.block
  | .slice (some a) _ _ => some a.block
  | .map (some i) => some i
  | _ => none
def wblkA : Value → Option Nat
  | .slice (some a) _ 1 => some a.block
  | _ => none
/-- The standing block that an operation writes. -/
def wrOf (o : Oper) (E : Operand → Value) : Option Nat :=
  match o.op with
  | .store _ a _ => wblk (E a)
  | .mapUpdate _ m _ _ | .insert _ m _ _ => wblk (E m)
  | .mapEntry _ m _ => wblk (E m)
  | .entryStore _ m _ _ => wblk (E m)
  | .next x true => wblk (E x)
  | .call { callee := .builtin b, args, argTypes := _ } => match b, args.toList with
    | .append, [s, _] => wblkA (E s)
    | .copy, [d, _] => wblk (E d)
    | .clear, [x] => wblk (E x)
    | .delete, [m, _] => wblk (E m)
    | .unsafeString, [x, _] => wblk (E x)
    | _, _ => none
  | _ => none

def notLoop : Blk → Bool
  | .loop .. => false
  | _ => true
inductive Shp (H : Heap) (n : Nat) : Option Nat → Heap → Nat → Prop
  | same {wr} : Shp H n wr H n
  | new {wr} (b : Blk) : Shp H n wr (H.upd n (some b)) (n + 1)
  | set {i c} (b : Option Blk) (h : H.get i = some c) (hl : notLoop c = true) : Shp H n (some i) (H.upd i b) n
  | both {i c} (b : Blk) (h : H.get i = some c) (hl : notLoop c = true) : Shp H n (some i) ((H.upd i none).upd n (some b)) (n + 1)

def Sound0 (f : Nat → Out) (H : Heap) (n : Nat) (wr : Option Nat) (v : Value) (H' : Heap) (n' : Nat) : Prop :=
  Shp H n wr H' n' ∧ ∀ lo, (∀ i, wr = some i → lo ≤ i) → f lo = some (v, H', n')

theorem s_none {f : Out} {wr : Option Nat} {v : Value} (h : f = some (v, H', n')) (hs : Shp H n wr H' n') : Sound0 (fun _ => f) H n wr v H' n' := ⟨hs, fun _ _ => h⟩

theorem p_alloc {t : TypeId} {v : Option Value} {x : Value} {wr : Option Nat} (h : aAlloc P t H n v = some (x, H', n')) : Shp H n wr H' n' := by
  unfold aAlloc at h; try dsimp only at h
  repeat' (split at h)
  all_goals first | (cases h; done) | (cases h; exact .same) | (cases h; exact .new _)
theorem p_load {t : TypeId} {a x : Value} {wr : Option Nat} (h : aLoad P t a H n = some (x, H', n')) : Shp H n wr H' n' := by
  unfold aLoad at h; try dsimp only at h
  repeat' (split at h)
  all_goals first | (cases h; done) | (cases h; exact .same) | (cases h; exact .new _)
theorem p_range {t : TypeId} {a x : Value} {wr : Option Nat} (h : aRange P t a H n = some (x, H', n')) : Shp H n wr H' n' := by
  unfold aRange at h; try dsimp only at h
  repeat' (split at h)
  all_goals first | (cases h; done) | (cases h; exact .same) | (cases h; exact .new _)
theorem p_entry {a x : Value} {wr : Option Nat} (h : aEntry a H n = some (x, H', n')) : Shp H n wr H' n' := by
  unfold aEntry at h; try dsimp only at h
  repeat' (split at h)
  all_goals first | (cases h; done) | (cases h; exact .same) | (cases h; exact .new _)
theorem p_len {t : TypeId} {a x : Value} {wr : Option Nat} (h : aLen P t a H n = some (x, H', n')) : Shp H n wr H' n' := by
  unfold aLen at h; try dsimp only at h
  repeat' (split at h)
  all_goals first | (cases h; done) | (cases h; exact .same) | (cases h; exact .new _)
theorem p_cap {t : TypeId} {a x : Value} {wr : Option Nat} (h : aCap P t a H n = some (x, H', n')) : Shp H n wr H' n' := by
  unfold aCap at h; try dsimp only at h
  repeat' (split at h)
  all_goals first | (cases h; done) | (cases h; exact .same) | (cases h; exact .new _)
theorem p_lookup {t : TypeId} {m k x : Value} {ok : Bool} {wr : Option Nat} (h : aLookup P t m k ok H n = some (x, H', n')) : Shp H n wr H' n' := by
  unfold aLookup at h; try dsimp only at h
  repeat' (split at h)
  all_goals first | (cases h; done) | (cases h; exact .same) | (cases h; exact .new _)
theorem p_makeSlice {t : TypeId} {a b x : Value} {wr : Option Nat} (h : aMakeSlice P t a b H n = some (x, H', n')) : Shp H n wr H' n' := by
  unfold aMakeSlice at h; try dsimp only at h
  repeat' (split at h)
  all_goals first | (cases h; done) | (cases h; exact .same) | (cases h; exact .new _)
theorem p_buildSlice {t : TypeId} {k : Nat} {ps : List (Nat × Value)} {x : Value} {wr : Option Nat} (h : aBuildSlice P t k ps H n = some (x, H', n')) : Shp H n wr H' n' := by
  unfold aBuildSlice at h; try dsimp only at h
  repeat' (split at h)
  all_goals first | (cases h; done) | (cases h; exact .same) | (cases h; exact .new _)
theorem p_convert {s d : TypeId} {a x : Value} {wr : Option Nat} (h : aConvert P s d a H n = some (x, H', n')) : Shp H n wr H' n' := by
  unfold aConvert at h; try dsimp only at h
  repeat' (split at h)
  all_goals first | (cases h; done) | (cases h; exact .same) | (cases h; exact .new _)
theorem p_convPtr {s d : TypeId} {a x : Value} {wr : Option Nat} (h : aConvPtr P s d a H n = some (x, H', n')) : Shp H n wr H' n' := by
  unfold aConvPtr at h; try dsimp only at h
  repeat' (split at h)
  all_goals first | (cases h; done) | (cases h; exact .same) | (cases h; exact .new _)
theorem p_sliceData {a x : Value} {wr : Option Nat} (h : aSliceData a H n = some (x, H', n')) : Shp H n wr H' n' := by
  unfold aSliceData at h; try dsimp only at h
  repeat' (split at h)
  all_goals first | (cases h; done) | (cases h; exact .same) | (cases h; exact .new _)
theorem p_store0 {t : TypeId} {a v x : Value} {wr : Option Nat} (h : aStore0 P t a v H n = some (x, H', n')) : Shp H n wr H' n' := by
  unfold aStore0 at h; try dsimp only at h
  repeat' (split at h)
  all_goals first | (cases h; done) | (cases h; exact .same) | (cases h; exact .new _)
theorem p_okV {v : Option Value} {x : Value} {wr : Option Nat} (h : okV v H n = some (x, H', n')) : Shp H n wr H' n' := by
  unfold okV at h; try dsimp only at h
  repeat' (split at h)
  all_goals first | (cases h; done) | (cases h; exact .same) | (cases h; exact .new _)
theorem p_rigid {o : Oper} {E : Operand → Value} {x : Value} {wr : Option Nat} (h : aRigid P o E H n = some (x, H', n')) : Shp H n wr H' n' := by
  unfold aRigid at h; try dsimp only at h
  repeat' (split at h)
  all_goals first | (cases h; done) | (cases h; exact .same) | (cases h; exact .new _)
theorem w_store {t : TypeId} {a v x : Value} (h : aStore P 0 t a v H n = some (x, H', n')) : Sound0 (fun lo => aStore P lo t a v H n) H n (wblk a) x H' n' := by
  unfold aStore at h
  repeat' (split at h)
  all_goals first
    | (cases h; done)
    | skip
  rename_i hg hc
  cases h
  refine ⟨.set _ hg rfl, fun lo hlo => ?_⟩
  simp only [aStore, hg]
  rw [if_pos ⟨hlo _ rfl, hc.2⟩]
theorem w_mapUpdate {t : TypeId} {m k v x : Value} (h : aMapUpdate P 0 t m k v H n = some (x, H', n')) : Sound0 (fun lo => aMapUpdate P lo t m k v H n) H n (wblk m) x H' n' := by
  unfold aMapUpdate at h; try dsimp only at h
  repeat' (split at h)
  all_goals first
    | (cases h; done)
    | (cases h; refine ⟨.same, fun lo hlo => ?_⟩; simp_all [aMapUpdate, wblk, wblkA]; done)
    | (cases h; refine ⟨.set _ ‹_› rfl, fun lo hlo => ?_⟩; simp_all [aMapUpdate, wblk, wblkA]; done)
    | (cases h; refine ⟨.new _, fun lo hlo => ?_⟩; simp_all [aMapUpdate, wblk, wblkA]; done)
    | (cases h; refine ⟨.both _ ‹_› rfl, fun lo hlo => ?_⟩; simp_all [aMapUpdate, wblk, wblkA]; done)
theorem w_mapEntry {t : TypeId} {m k x : Value} (h : aMapEntry P 0 t m k H n = some (x, H', n')) : Sound0 (fun lo => aMapEntry P lo t m k H n) H n (wblk m) x H' n' := by
  unfold aMapEntry at h; try dsimp only at h
  repeat' (split at h)
  all_goals first
    | (cases h; done)
    | (cases h; refine ⟨.same, fun lo hlo => ?_⟩; simp_all [aMapEntry, wblk, wblkA]; done)
    | (cases h; refine ⟨.set _ ‹_› rfl, fun lo hlo => ?_⟩; simp_all [aMapEntry, wblk, wblkA]; done)
    | (cases h; refine ⟨.new _, fun lo hlo => ?_⟩; simp_all [aMapEntry, wblk, wblkA]; done)
    | (cases h; refine ⟨.both _ ‹_› rfl, fun lo hlo => ?_⟩; simp_all [aMapEntry, wblk, wblkA]; done)
theorem w_entryStore {m b v x : Value} (h : aEntryStore 0 m b v H n = some (x, H', n')) : Sound0 (fun lo => aEntryStore lo m b v H n) H n (wblk m) x H' n' := by
  unfold aEntryStore at h; try dsimp only at h
  repeat' (split at h)
  all_goals first
    | (cases h; done)
    | (cases h; refine ⟨.same, fun lo hlo => ?_⟩; simp_all [aEntryStore, wblk, wblkA]; done)
    | (cases h; refine ⟨.set _ ‹_› rfl, fun lo hlo => ?_⟩; simp_all [aEntryStore, wblk, wblkA]; done)
    | (cases h; refine ⟨.new _, fun lo hlo => ?_⟩; simp_all [aEntryStore, wblk, wblkA]; done)
    | (cases h; refine ⟨.both _ ‹_› rfl, fun lo hlo => ?_⟩; simp_all [aEntryStore, wblk, wblkA]; done)
theorem w_delete {t : TypeId} {m k x : Value} (h : aDelete P 0 t m k H n = some (x, H', n')) : Sound0 (fun lo => aDelete P lo t m k H n) H n (wblk m) x H' n' := by
  unfold aDelete at h; try dsimp only at h
  repeat' (split at h)
  all_goals first
    | (cases h; done)
    | (cases h; refine ⟨.same, fun lo hlo => ?_⟩; simp_all [aDelete, wblk, wblkA]; done)
    | (cases h; refine ⟨.set _ ‹_› rfl, fun lo hlo => ?_⟩; simp_all [aDelete, wblk, wblkA]; done)
    | (cases h; refine ⟨.new _, fun lo hlo => ?_⟩; simp_all [aDelete, wblk, wblkA]; done)
    | (cases h; refine ⟨.both _ ‹_› rfl, fun lo hlo => ?_⟩; simp_all [aDelete, wblk, wblkA]; done)
theorem w_copy {t : TypeId} {a b x : Value} (h : aCopy P 0 t a b H n = some (x, H', n')) : Sound0 (fun lo => aCopy P lo t a b H n) H n (wblk a) x H' n' := by
  unfold aCopy at h; try dsimp only at h
  repeat' (split at h)
  all_goals first
    | (cases h; done)
    | (cases h; refine ⟨.same, fun lo hlo => ?_⟩; simp_all [aCopy, wblk, wblkA]; done)
    | (cases h; refine ⟨.set _ ‹_› rfl, fun lo hlo => ?_⟩; simp_all [aCopy, wblk, wblkA]; done)
    | (cases h; refine ⟨.new _, fun lo hlo => ?_⟩; simp_all [aCopy, wblk, wblkA]; done)
    | (cases h; refine ⟨.both _ ‹_› rfl, fun lo hlo => ?_⟩; simp_all [aCopy, wblk, wblkA]; done)
theorem w_clear {t : TypeId} {a x : Value} (h : aClear P 0 t a H n = some (x, H', n')) : Sound0 (fun lo => aClear P lo t a H n) H n (wblk a) x H' n' := by
  unfold aClear at h; try dsimp only at h
  repeat' (split at h)
  all_goals first
    | (cases h; done)
    | (cases h; refine ⟨.same, fun lo hlo => ?_⟩; simp_all [aClear, wblk, wblkA]; done)
    | (cases h; refine ⟨.set _ ‹_› rfl, fun lo hlo => ?_⟩; simp_all [aClear, wblk, wblkA]; done)
    | (cases h; refine ⟨.new _, fun lo hlo => ?_⟩; simp_all [aClear, wblk, wblkA]; done)
    | (cases h; refine ⟨.both _ ‹_› rfl, fun lo hlo => ?_⟩; simp_all [aClear, wblk, wblkA]; done)
theorem w_nextS {a x : Value} (h : aNextS 0 a H n = some (x, H', n')) : Sound0 (fun lo => aNextS lo a H n) H n (wblk a) x H' n' := by
  unfold aNextS at h; try dsimp only at h
  repeat' (split at h)
  all_goals first
    | (cases h; done)
    | (cases h; refine ⟨.same, fun lo hlo => ?_⟩; simp_all [aNextS, wblk, wblkA]; done)
    | (cases h; refine ⟨.set _ ‹_› rfl, fun lo hlo => ?_⟩; simp_all [aNextS, wblk, wblkA]; done)
    | (cases h; refine ⟨.new _, fun lo hlo => ?_⟩; simp_all [aNextS, wblk, wblkA]; done)
    | (cases h; refine ⟨.both _ ‹_› rfl, fun lo hlo => ?_⟩; simp_all [aNextS, wblk, wblkA]; done)
theorem w_unsafeString {t : TypeId} {a b x : Value} (h : aUnsafeString P 0 t a b H n = some (x, H', n')) : Sound0 (fun lo => aUnsafeString P lo t a b H n) H n (wblk a) x H' n' := by
  unfold aUnsafeString at h; try dsimp only at h
  repeat' (split at h)
  all_goals first
    | (cases h; done)
    | (cases h; refine ⟨.same, fun lo hlo => ?_⟩; simp_all [aUnsafeString, wblk, wblkA]; done)
    | (cases h; refine ⟨.set _ ‹_› rfl, fun lo hlo => ?_⟩; simp_all [aUnsafeString, wblk, wblkA]; done)
    | (cases h; refine ⟨.new _, fun lo hlo => ?_⟩; simp_all [aUnsafeString, wblk, wblkA]; done)
    | (cases h; refine ⟨.both _ ‹_› rfl, fun lo hlo => ?_⟩; simp_all [aUnsafeString, wblk, wblkA]; done)
theorem w_append {t : TypeId} {a v x : Value} (h : aAppend P 0 t a v H n = some (x, H', n')) : Sound0 (fun lo => aAppend P lo t a v H n) H n (wblkA a) x H' n' := by
  unfold aAppend at h
  repeat' (split at h)
  all_goals first
    | (cases h; done)
    | (cases h; refine ⟨.same, fun lo hlo => ?_⟩; simp_all [aAppend, wblkA]; done)
    | (cases h; refine ⟨.new _, fun lo hlo => ?_⟩; simp_all [aAppend, wblkA]; done)
    | skip
  rename_i hc _ _ _ _ _ _
  cases h
  obtain ⟨rfl, rfl, _⟩ := hc
  refine ⟨.both _ ‹_› rfl, fun lo hlo => ?_⟩
  have := hlo _ rfl
  simp_all [aAppend]

theorem Sound0.quiet {f : Out} {wr : Option Nat} {v : Value} (h : f = some (v, H', n')) (hs : Shp H n wr H' n') : Sound0 (fun _ => f) H n wr v H' n' := ⟨hs, fun _ _ => h⟩

theorem w_op {o : Oper} {E : Operand → Value} {v : Value} (h : aOp P 0 o E H n = some (v, H', n')) : Sound0 (fun lo => aOp P lo o E H n) H n (wrOf o E) v H' n' := by
  obtain ⟨dst, op, ty, pos, after, guard⟩ := o
  cases op with
  | store t a x =>
    simp only [aOp] at h ⊢
    cases hs : aStore P 0 t (E a) (E x) H n with
    | some r =>
      rw [hs] at h
      obtain ⟨v', H2, n2⟩ := r
      cases h
      have := w_store hs
      refine ⟨this.1, fun lo hlo => ?_⟩
      have := this.2 lo hlo
      simp only at this ⊢
      rw [this]
    | none =>
      rw [hs] at h
      have h2 := p_store0 (wr := wrOf { dst := dst, op := .store t a x, type := ty, pos := pos, after := after, guard := guard } E) h
      refine ⟨h2, fun lo hlo => ?_⟩
      have hn : aStore P lo t (E a) (E x) H n = none := by
        cases hl : aStore P lo t (E a) (E x) H n with
        | none => rfl
        | some r =>
          exfalso
          simp only at h
          unfold aStore0 at h
          unfold aStore at hl
          repeat' (split at h)
          all_goals first | (cases h; done) | skip
          repeat' (split at hl)
          all_goals first | (cases hl; done) | skip
          simp_all
      simp only
      rw [hn]; exact h
  | mapUpdate t m k v => exact w_mapUpdate h
  | insert t m k v => exact w_mapUpdate h
  | mapEntry t m k => exact w_mapEntry h
  | entryStore t m b v => exact w_entryStore h
  | next x s => cases s with
    | true => exact w_nextS h
    | false => cases h
  | call c =>
    obtain ⟨callee, args, tys⟩ := c
    cases callee with
    | value f => cases h
    | invoke r m => cases h
    | builtin b =>
      simp only [aOp, wrOf] at h ⊢
      split at h
      case h_9 => exact ⟨p_rigid h, fun lo hlo => h⟩
      all_goals simp only [*]
      all_goals first
        | exact .quiet rfl (p_len h)
        | exact .quiet rfl (p_cap h)
        | exact .quiet rfl (p_sliceData h)
        | exact w_copy h
        | exact w_clear h
        | exact w_delete h
        | exact w_unsafeString h
        | skip
      split at h
      · cases h
      · cases h
      · rename_i hne _
        have hw := w_append h
        refine ⟨hw.1, fun lo hlo => ?_⟩
        exact hw.2 lo hlo
  | _ =>
    simp only [aOp] at h ⊢
    refine .quiet h ?_
    repeat' (split at h)
    all_goals first | (cases h; done) | exact p_alloc h | exact p_load h | exact p_range h | exact p_entry h | exact p_lookup h | exact p_makeSlice h | exact p_buildSlice h | exact p_convert h | exact p_convPtr h | exact p_okV h | exact p_rigid h | (cases h; exact p_convert ‹_›) | (cases h; exact p_convPtr ‹_›) | (cases h; exact .same) | (cases h; exact .new _)

theorem Shp.grow {wr : Option Nat} (h : Shp H n wr H' n') : Grow H n H' n' := by
  cases h with
  | same => exact .refl
  | new b => exact .new _
  | set b h hl => exact .set _ h
  | both b h hl => exact (Grow.set _ h).trans (.new _)
theorem Shp.frame {wr : Option Nat} (h : Shp H n wr H' n') {i : Nat} (hi : i < n) (hw : wr ≠ some i) : H'.get i = H.get i := by
  cases h with
  | same => rfl
  | new b => exact Heap.get_upd_ne H _ (by omega)
  | set b h hl => exact Heap.get_upd_ne H _ (fun e => hw (by rw [e]))
  | both b h hl => rw [Heap.get_upd_ne _ _ (by omega)]; exact Heap.get_upd_ne H _ (fun e => hw (by rw [e]))
theorem Shp.loop {wr : Option Nat} (h : Shp H n wr H' n') {i : Nat} (hi : i < n) {b : Blk} (hb : H.get i = some b) (hl : notLoop b = false) : H'.get i = H.get i := by
  cases h with
  | same => rfl
  | new b => exact Heap.get_upd_ne H _ (by omega)
  | @set j c b' h hl' =>
    refine Heap.get_upd_ne H _ (fun e => ?_)
    subst e; rw [h] at hb; cases hb; rw [hl] at hl'; cases hl'
  | @both j c b' h hl' =>
    rw [Heap.get_upd_ne _ _ (by omega)]
    refine Heap.get_upd_ne H _ (fun e => ?_)
    subst e; rw [h] at hb; cases hb; rw [hl] at hl'; cases hl'

/-- All blocks lie below n. -/
def Dom (H : Heap) (n : Nat) : Prop := ∀ i b, H.get i = some b → i < n
theorem Grow.dom (h : Grow H n H' n') (hd : Dom H n) : Dom H' n' := by
  intro i b hb
  rcases h.2 i b hb with h1 | h1
  · obtain ⟨c, hc⟩ := Option.isSome_iff_exists.1 h1
    exact Nat.lt_of_lt_of_le (hd i c hc) h.1
  · exact h1.2

end
end Go.AL
