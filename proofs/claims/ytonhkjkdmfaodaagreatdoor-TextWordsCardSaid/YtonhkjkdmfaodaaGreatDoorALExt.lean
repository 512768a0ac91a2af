/- bytealg.MakeNoZero on the abstract machine: a row of bytes of which nothing is known. -/
import Derived.Test.YtonhkjkdmfaodaaGreatDoorALOps13
set_option linter.unusedVariables false
set_option linter.unusedSimpArgs false
namespace Go.AL
open Go.RowKit

variable {P : Program} {G lo : Nat} {σ : Nat → Loc} {H H' : Heap} {n n' : Nat} {w : World}

theorem digits_size : ∀ (k t : Nat) (acc : Array Value), (Extern.BytealgMakeNoZero.digits k t acc).size = acc.size + k
  | 0, _, acc => rfl
  | k + 1, t, acc => by
    rw [Extern.BytealgMakeNoZero.digits, digits_size k]
    simp; omega

theorem makeNoZero_snd (hR : Rel G σ H n w) {ps rs : Array TypeId} {t e : TypeId} {k : Int} (hr : rs[0]? = some t) (ht : P.underlying t = some (.slice e)) (h0 : 0 ≤ k) (h1 : k ≤ 1073741824) :
    Snd P G lo σ H n w (Extern.BytealgMakeNoZero.makeNoZero ps rs #[.int .i64 k]) (.slice (some ⟨n, 0, none⟩) k.toNat 1) (H.upd n (some (.cells [] e 1))) (n + 1) := by
  let q := Question.appendCap k.toNat 0 e
  let cap := q.cut (w.tape w.drawn q)
  have hcap : k.toNat ≤ cap := by simp only [cap, q, Question.cut]; omega
  let q2 := Question.extern "internal/bytealg.MakeNoZero.bytes" 0
  let arr := Extern.BytealgMakeNoZero.digits cap (q2.cut (w.drew.tape w.drew.drawn q2)) #[]
  have hsz : arr.size = cap := by simp only [arr, digits_size]; simp
  let l : Loc := ⟨w.heap.size, 0, cap, 1, true, true⟩
  have hR2 := hR.drew.drew
  refine ⟨.slice (some ⟨w.heap.size, 0, none⟩) k.toNat cap, w.drew.drew.alloc (.cells arr e), put1 σ n l, ?_, ?_, hR2.alloc (l := l) rfl ?_, ((Moves.drew hR).trans (Moves.drew hR.drew)).trans (Moves.alloc hR2 _ l _ rfl)⟩
  · have hn : ¬ (k < 0) := by omega
    have hn2 : ¬ (k > 2 ^ 48) := by omega
    have f1 : (Question.appendCap k.toNat 0 e).forced = false := rfl
    have f2 : (Question.extern "internal/bytealg.MakeNoZero.bytes" 0).forced = false := rfl
    have hdef : Extern.BytealgMakeNoZero.makeNoZero ps rs #[.int .i64 k] = (do
      let some t := rs[0]? | stuck "bytealg.MakeNoZero: no result type"
      let .slice elem ← underlying t | stuck "bytealg.MakeNoZero: slice type expected"
      if k < 0 || k > 2 ^ 48 then runtimePanic (.error "makeslice: len out of range")
      let cap ← choose (.appendCap k.toNat 0 elem)
      askRoom cap
      let bytes ← choose (.extern "internal/bytealg.MakeNoZero.bytes" 0)
      let a ← newRow elem (Extern.BytealgMakeNoZero.digits cap bytes #[])
      pure (.slice (some a) k.toNat cap)) := rfl
    rw [hdef]
    simp only [hr, Sem.run_bind, run_underlying ht, Result.andThen_ok, hn, hn2, decide_false, Bool.or_self, Bool.false_eq_true, if_false, Sem.run_pure, run_choose_drew, f1, f2, run_askRoom, newRow, run_newObj, World.alloc_eq]
    rfl
  · exact VR.ptrs (σ := σ) (n := n) (l := l) (len := k.toNat) (cc := cap) hcap rfl rfl (by simp [l])
  · exact ⟨by rw [put1_new], by rw [put1_new], by rw [put1_new], arr, by rw [put1_new]; exact heap_new w.drew.drew _, by rw [put1_new, hsz], by simp, by simp⟩

end Go.AL
