/- New numbers lie between the old bound and the new one. -/
import Derived.Test.YtonhkjkdmfaodaaGreatDoorALAll
set_option linter.unusedVariables false
set_option linter.unusedSimpArgs false
namespace Go.AL
open Go.RowKit

variable {P : Program} {lo : Nat} {H H' : Heap} {n n' : Nat}

/-- From n to n' on. -/
def Grow (H : Heap) (n : Nat) (H' : Heap) (n' : Nat) : Prop := n ≤ n' ∧ ∀ i b, H'.get i = some b → (H.get i).isSome = true ∨ (n ≤ i ∧ i < n')

theorem Grow.refl : Grow H n H n := ⟨Nat.le_refl _, fun i b h => .inl (by simp [h])⟩
theorem Grow.trans {H1 H2 : Heap} {n1 n2 : Nat} (h : Grow H n H1 n1) (k : Grow H1 n1 H2 n2) : Grow H n H2 n2 := by
  refine ⟨Nat.le_trans h.1 k.1, fun i b hb => ?_⟩
  rcases k.2 i b hb with h1 | ⟨h1, h2⟩
  · obtain ⟨c, hc⟩ := Option.isSome_iff_exists.1 h1
    rcases h.2 i c hc with h3 | ⟨h3, h4⟩
    · exact .inl h3
    · exact .inr ⟨h3, Nat.lt_of_lt_of_le h4 k.1⟩
  · exact .inr ⟨Nat.le_trans h.1 h1, h2⟩
theorem Grow.new (b : Option Blk) : Grow H n (H.upd n b) (n + 1) := by
  refine ⟨Nat.le_succ n, fun i c h => ?_⟩
  rcases Heap.get_upd_some h with ⟨rfl, _⟩ | ⟨_, h⟩
  · exact .inr ⟨Nat.le_refl _, Nat.lt_succ_self _⟩
  · exact .inl (by simp [h])
theorem Grow.kill (i : Nat) : Grow H n (H.upd i none) n := by
  refine ⟨Nat.le_refl n, fun j c h => ?_⟩
  rcases Heap.get_upd_some h with ⟨_, e⟩ | ⟨_, h⟩
  · cases e
  · exact .inl (by simp [h])
theorem Grow.set {i : Nat} {b : Blk} (b' : Option Blk) (h : H.get i = some b) : Grow H n (H.upd i b') n := by
  refine ⟨Nat.le_refl n, fun j c hj => ?_⟩
  rcases Heap.get_upd_some hj with ⟨rfl, _⟩ | ⟨_, hj⟩
  · exact .inl (by simp [h])
  · exact .inl (by simp [hj])

theorem g_alloc {t : TypeId} {v : Option Value} {x : Value} (h : aAlloc P t H n v = some (x, H', n')) : Grow H n H' n' := by
  unfold aAlloc at h; repeat' (split at h)
  all_goals first | (cases h; done) | (cases h; exact .new _)
theorem g_load {t : TypeId} {a x : Value} (h : aLoad P t a H n = some (x, H', n')) : Grow H n H' n' := by
  unfold aLoad at h; repeat' (split at h)
  all_goals first | (cases h; done) | (cases h; exact .refl)
theorem g_store {t : TypeId} {a v x : Value} (h : aStore P lo t a v H n = some (x, H', n')) : Grow H n H' n' := by
  unfold aStore at h; repeat' (split at h)
  all_goals first | (cases h; done) | (cases h; exact .set _ ‹_›)
theorem g_append {t : TypeId} {a v x : Value} (h : aAppend P lo t a v H n = some (x, H', n')) : Grow H n H' n' := by
  unfold aAppend at h; repeat' (split at h)
  all_goals first | (cases h; done) | (cases h; exact .refl) | (cases h; exact .new _) | (cases h; exact (Grow.set _ ‹_›).trans (.new _))
theorem g_mapUpdate {t : TypeId} {m k v x : Value} (h : aMapUpdate P lo t m k v H n = some (x, H', n')) : Grow H n H' n' := by
  unfold aMapUpdate at h; try dsimp only at h
  repeat' (split at h)
  all_goals first | (cases h; done) | (cases h; exact .refl) | (cases h; exact .new _) | (cases h; exact .set _ ‹_›) | (cases h; exact .kill _)
theorem g_mapEntry {t : TypeId} {m k x : Value} (h : aMapEntry P lo t m k H n = some (x, H', n')) : Grow H n H' n' := by
  unfold aMapEntry at h; try dsimp only at h
  repeat' (split at h)
  all_goals first | (cases h; done) | (cases h; exact .refl) | (cases h; exact .new _) | (cases h; exact .set _ ‹_›) | (cases h; exact .kill _)
theorem g_entryStore {m b v x : Value} (h : aEntryStore lo m b v H n = some (x, H', n')) : Grow H n H' n' := by
  unfold aEntryStore at h; try dsimp only at h
  repeat' (split at h)
  all_goals first | (cases h; done) | (cases h; exact .refl) | (cases h; exact .new _) | (cases h; exact .set _ ‹_›) | (cases h; exact .kill _)
theorem g_delete {t : TypeId} {m k x : Value} (h : aDelete P lo t m k H n = some (x, H', n')) : Grow H n H' n' := by
  unfold aDelete at h; try dsimp only at h
  repeat' (split at h)
  all_goals first | (cases h; done) | (cases h; exact .refl) | (cases h; exact .new _) | (cases h; exact .set _ ‹_›) | (cases h; exact .kill _)
theorem g_copy {t : TypeId} {a b x : Value} (h : aCopy P lo t a b H n = some (x, H', n')) : Grow H n H' n' := by
  unfold aCopy at h; try dsimp only at h
  repeat' (split at h)
  all_goals first | (cases h; done) | (cases h; exact .refl) | (cases h; exact .new _) | (cases h; exact .set _ ‹_›) | (cases h; exact .kill _)
theorem g_clear {t : TypeId} {a x : Value} (h : aClear P lo t a H n = some (x, H', n')) : Grow H n H' n' := by
  unfold aClear at h; try dsimp only at h
  repeat' (split at h)
  all_goals first | (cases h; done) | (cases h; exact .refl) | (cases h; exact .new _) | (cases h; exact .set _ ‹_›) | (cases h; exact .kill _)
theorem g_range {t : TypeId} {a x : Value} (h : aRange P t a H n = some (x, H', n')) : Grow H n H' n' := by
  unfold aRange at h; try dsimp only at h
  repeat' (split at h)
  all_goals first | (cases h; done) | (cases h; exact .refl) | (cases h; exact .new _) | (cases h; exact .set _ ‹_›) | (cases h; exact .kill _)
theorem g_nextS {a x : Value} (h : aNextS lo a H n = some (x, H', n')) : Grow H n H' n' := by
  unfold aNextS at h; try dsimp only at h
  repeat' (split at h)
  all_goals first | (cases h; done) | (cases h; exact .refl) | (cases h; exact .new _) | (cases h; exact .set _ ‹_›) | (cases h; exact .kill _)
theorem g_entry {a x : Value} (h : aEntry a H n = some (x, H', n')) : Grow H n H' n' := by
  unfold aEntry at h; try dsimp only at h
  repeat' (split at h)
  all_goals first | (cases h; done) | (cases h; exact .refl) | (cases h; exact .new _) | (cases h; exact .set _ ‹_›) | (cases h; exact .kill _)
theorem g_len {t : TypeId} {a x : Value} (h : aLen P t a H n = some (x, H', n')) : Grow H n H' n' := by
  unfold aLen at h; try dsimp only at h
  repeat' (split at h)
  all_goals first | (cases h; done) | (cases h; exact .refl) | (cases h; exact .new _) | (cases h; exact .set _ ‹_›) | (cases h; exact .kill _)
theorem g_cap {t : TypeId} {a x : Value} (h : aCap P t a H n = some (x, H', n')) : Grow H n H' n' := by
  unfold aCap at h; try dsimp only at h
  repeat' (split at h)
  all_goals first | (cases h; done) | (cases h; exact .refl) | (cases h; exact .new _) | (cases h; exact .set _ ‹_›) | (cases h; exact .kill _)
theorem g_lookup {t : TypeId} {m k x : Value} {ok : Bool} (h : aLookup P t m k ok H n = some (x, H', n')) : Grow H n H' n' := by
  unfold aLookup at h; try dsimp only at h
  repeat' (split at h)
  all_goals first | (cases h; done) | (cases h; exact .refl) | (cases h; exact .new _) | (cases h; exact .set _ ‹_›) | (cases h; exact .kill _)
theorem g_makeSlice {t : TypeId} {a b x : Value} (h : aMakeSlice P t a b H n = some (x, H', n')) : Grow H n H' n' := by
  unfold aMakeSlice at h; try dsimp only at h
  repeat' (split at h)
  all_goals first | (cases h; done) | (cases h; exact .refl) | (cases h; exact .new _) | (cases h; exact .set _ ‹_›) | (cases h; exact .kill _)
theorem g_buildSlice {t : TypeId} {k : Nat} {ps : List (Nat × Value)} {x : Value} (h : aBuildSlice P t k ps H n = some (x, H', n')) : Grow H n H' n' := by
  unfold aBuildSlice at h; try dsimp only at h
  repeat' (split at h)
  all_goals first | (cases h; done) | (cases h; exact .refl) | (cases h; exact .new _) | (cases h; exact .set _ ‹_›) | (cases h; exact .kill _)
theorem g_convert {s d : TypeId} {a x : Value} (h : aConvert P s d a H n = some (x, H', n')) : Grow H n H' n' := by
  unfold aConvert at h; try dsimp only at h
  repeat' (split at h)
  all_goals first | (cases h; done) | (cases h; exact .refl) | (cases h; exact .new _) | (cases h; exact .set _ ‹_›) | (cases h; exact .kill _)
theorem g_convPtr {s d : TypeId} {a x : Value} (h : aConvPtr P s d a H n = some (x, H', n')) : Grow H n H' n' := by
  unfold aConvPtr at h; try dsimp only at h
  repeat' (split at h)
  all_goals first | (cases h; done) | (cases h; exact .refl) | (cases h; exact .new _) | (cases h; exact .set _ ‹_›) | (cases h; exact .kill _)
theorem g_sliceData {a x : Value} (h : aSliceData a H n = some (x, H', n')) : Grow H n H' n' := by
  unfold aSliceData at h; try dsimp only at h
  repeat' (split at h)
  all_goals first | (cases h; done) | (cases h; exact .refl) | (cases h; exact .new _) | (cases h; exact .set _ ‹_›) | (cases h; exact .kill _)
theorem g_unsafeString {t : TypeId} {a b x : Value} (h : aUnsafeString P lo t a b H n = some (x, H', n')) : Grow H n H' n' := by
  unfold aUnsafeString at h; try dsimp only at h
  repeat' (split at h)
  all_goals first | (cases h; done) | (cases h; exact .refl) | (cases h; exact .new _) | (cases h; exact .set _ ‹_›) | (cases h; exact .kill _)
theorem g_store0 {t : TypeId} {a v x : Value} (h : aStore0 P t a v H n = some (x, H', n')) : Grow H n H' n' := by
  unfold aStore0 at h; try dsimp only at h
  repeat' (split at h)
  all_goals first | (cases h; done) | (cases h; exact .refl) | (cases h; exact .new _) | (cases h; exact .set _ ‹_›) | (cases h; exact .kill _)
theorem g_okV {v : Option Value} {x : Value} (h : okV v H n = some (x, H', n')) : Grow H n H' n' := by
  unfold okV at h; try dsimp only at h
  repeat' (split at h)
  all_goals first | (cases h; done) | (cases h; exact .refl) | (cases h; exact .new _) | (cases h; exact .set _ ‹_›) | (cases h; exact .kill _)
theorem g_rigid {o : Oper} {E : Operand → Value} {x : Value} (h : aRigid P o E H n = some (x, H', n')) : Grow H n H' n' := by
  unfold aRigid at h; try dsimp only at h
  repeat' (split at h)
  all_goals first | (cases h; done) | (cases h; exact .refl) | (cases h; exact .new _) | (cases h; exact .set _ ‹_›) | (cases h; exact .kill _)
theorem g_op {o : Oper} {E : Operand → Value} {v : Value} (h : aOp P lo o E H n = some (v, H', n')) : Grow H n H' n' := by
  unfold aOp at h
  repeat' (split at h)
  all_goals first | (cases h; done) | exact g_alloc h | exact g_load h | exact g_store h | exact g_append h | exact g_mapUpdate h | exact g_mapEntry h | exact g_entryStore h | exact g_delete h | exact g_copy h | exact g_clear h | exact g_range h | exact g_nextS h | exact g_entry h | exact g_len h | exact g_cap h | exact g_lookup h | exact g_makeSlice h | exact g_buildSlice h | exact g_convert h | exact g_convPtr h | exact g_sliceData h | exact g_unsafeString h | exact g_store0 h | exact g_okV h | exact g_rigid h | (cases h; exact g_store ‹_›) | (cases h; exact g_convert ‹_›) | (cases h; exact g_convPtr ‹_›) | (cases h; exact .refl) | (cases h; exact .new _)

end Go.AL
