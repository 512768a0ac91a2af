/- The rules of ALRun are the model's: ranges over functions. -/
import Derived.Test.YtonhkjkdmfaodaaGreatDoorALSound3
set_option linter.unusedVariables false
set_option linter.unusedSimpArgs false
namespace Go.AL
open Go.RowKit

variable {P : Program} {G lo N : Nat} {σ : Nat → Loc} {H H' : Heap} {n n' : Nat} {w : World}

theorem heap_alloc_old (w : World) (o : Obj) (k : Nat) (h : k < w.heap.size) : (w.alloc o).heap[k]? = w.heap[k]? := Below.heap_alloc w o k h

theorem tmpsOf_rel {E : Env} {t : Array Value} (h : TRel σ n N E t) : (tmpsOf E N).size = t.size ∧ ∀ (k : Nat) (x y : Value), (tmpsOf E N)[k]? = some x → t[k]? = some y → VR σ n x y := by
  refine ⟨by simp [tmpsOf, h.size], fun k x y hx hy => ?_⟩
  have hk : k < N := by
    have := (Array.getElem?_eq_some_iff.1 hy).1
    rw [h.size] at this; exact this
  have := h.val k
  rw [Array.getD_eq_getD_getElem?, hy] at this
  simp [tmpsOf, hk] at hx
  rw [← hx]; exact this

theorem snd_rangeFunc {f : Operand} {ps : Array Tmp} {asg body : Code} {E : Env} {ds : List Nat} {Q : Post} {g : FuncId} {x y : Array Value} (hN : NoGor P) {fn : Func} {c : Code} (hfn : P.funcs[g]? = some fn) (hb : fn.body = some c)
    (K : Value → Heap → Nat → Prop) (hf : ev E f = .func (.func g) x y) (hlo : lo ≤ n)
    (h : CallSnd P G lo g (x ++ #[.func (.yield (n + 1)) #[] #[]] ++ y) ((H.upd n (some .dfr)).upd (n + 1) (some (.loop (tmpsOf E N) ps asg body .ready none))) (n + 2) K)
    (h1 : ∀ v H' n', K v H' n' → ∃ E' st pend x, H'.get (n + 1) = some (.loop E' ps asg body st pend) ∧ st ≠ .busy ∧ xxOf pend = some x ∧ Q x E (n :: ds) (H'.upd (n + 1) none) n') :
    CodeSnd P G true lo N (.rangeFunc f ps asg body) E ds H n Q := by
  intro hok F nn σ w a hF hR ha
  have hF : F = Fence.wide := by rcases hF with h | ⟨h, _⟩; exact h; cases h
  subst hF
  simp only [codeOk, Bool.and_eq_true] at hok
  obtain ⟨x', y', hf', hx, hy⟩ := func_rel hR ha.tmps hok.1.1.1 hf
  refine wpIn_rangeFunc ?_
  intro fid _
  obtain ⟨l1, hl1⟩ : ∃ l : Loc, l = ⟨w.heap.size, 0, 0, 0, true, true⟩ := ⟨_, rfl⟩
  obtain ⟨l2, hl2⟩ : ∃ l : Loc, l = ⟨w.heap.size + 1, 0, 0, 0, true, true⟩ := ⟨_, rfl⟩
  obtain ⟨r, hr⟩ : ∃ r : Loop, r = { state := .ready, pending := none, fn := fid, tmps := a.tmps, params := ps, assign := asg, body, defers := w.heap.size } := ⟨_, rfl⟩
  obtain ⟨w1, hw1⟩ : ∃ w1, w1 = w.alloc (.deferred (some [])) := ⟨_, rfl⟩
  obtain ⟨w2, hw2⟩ : ∃ w2, w2 = w1.alloc (.loop r) := ⟨_, rfl⟩
  have hs1 : w1.heap.size = w.heap.size + 1 := by rw [hw1]; simp
  have hR1 : Rel G (put1 σ n l1) (H.upd n (some .dfr)) (n + 1) w1 := by
    rw [hw1]
    exact hR.alloc (by rw [hl1]) ⟨by rw [put1_new, hl1], by rw [put1_new, hl1]; exact heap_new w _⟩
  have hm1 : Moves lo σ H n w (put1 σ n l1) (H.upd n (some .dfr)) (n + 1) w1 := by rw [hw1]; exact Moves.alloc hR _ _ _ (by rw [hl1])
  have ha1 := ha.mono hm1.same hm1.le
  obtain ⟨ht1, ht2⟩ := tmpsOf_rel ha1.tmps
  have hR2 : Rel G (put1 (put1 σ n l1) (n + 1) l2) ((H.upd n (some .dfr)).upd (n + 1) (some (.loop (tmpsOf E N) ps asg body .ready none))) (n + 2) w2 := by
    rw [hw2]
    refine hR1.alloc (by rw [hl2, hs1]) ⟨by rw [put1_new, hl2], r, ?_, by rw [hr], by rw [hr], by rw [hr], by rw [hr], by rw [hr], by rw [hr]; exact ht1, ?_⟩
    · rw [put1_new, hl2, ← hs1]; exact heap_new w1 _
    · intro k a b hka hkb
      rw [hr] at hkb
      exact (ht2 k a b hka hkb).mono (put1_same _ _ _) (by omega)
  have hm2 : Moves lo (put1 σ n l1) (H.upd n (some .dfr)) (n + 1) w1 (put1 (put1 σ n l1) (n + 1) l2) ((H.upd n (some .dfr)).upd (n + 1) (some (.loop (tmpsOf E N) ps asg body .ready none))) (n + 2) w2 := by
    rw [hw2]; exact Moves.alloc hR1 _ _ _ (by rw [hl2, hs1])
  have hm12 := hm1.trans hm2
  have hy12 : VR (put1 (put1 σ n l1) (n + 1) l2) (n + 2) (.func (.yield (n + 1)) #[] #[]) (.func (.yield (w.heap.size + 1)) #[] #[]) := by
    have := VR.yl (σ := put1 (put1 σ n l1) (n + 1) l2) (n := n + 2) (i := n + 1) ⟨by omega, by rw [put1_new, hl2]⟩ (by rw [put1_new, hl2])
    rw [put1_new, hl2] at this
    rw [hl2]
    exact this
  have hargs : ArrR (put1 (put1 σ n l1) (n + 1) l2) (n + 2) (x ++ #[.func (.yield (n + 1)) #[] #[]] ++ y) (x' ++ #[.func (.yield (w.heap.size + 1)) #[] #[]] ++ y') := by
    have up : ∀ {p q : Array Value}, ArrR σ n p q → ArrR (put1 (put1 σ n l1) (n + 1) l2) (n + 2) p q := fun hp => ⟨hp.size, fun k u v hu hv => (hp.val k u v hu hv).mono hm12.same hm12.le⟩
    have mid : ArrR (put1 (put1 σ n l1) (n + 1) l2) (n + 2) #[.func (.yield (n + 1)) #[] #[]] #[.func (.yield (w.heap.size + 1)) #[] #[]] := by
      refine ⟨rfl, fun k u v hu hv => ?_⟩
      cases k with
      | zero => simp at hu hv; subst hu hv; exact hy12
      | succ k => simp at hu
    exact ((up hx).append mid).append (up hy)
  refine ⟨w.heap.size + 1, [{ target := .collected w.heap.size, args := #[] }], w2, { target := .fn (.func g) y', args := x' ++ #[.func (.yield (w.heap.size + 1)) #[] #[]] }, w2, g, x' ++ #[.func (.yield (w.heap.size + 1)) #[] #[]] ++ y', w2, ?_, ?_, ?_, ?_, by simp [Fence.wide], ?_⟩
  · rw [hw2, hw1, hr]; exact run_enterLoop_outer _ _ _ _ _
  · have := resolve_run (P := P) (ρ := a.eval) (f := f) (args := #[.const (.func (.yield (w.heap.size + 1)) #[] #[])]) (tys := #[]) (ty := 0) hf' w2
    simpa [Act.eval] using this
  · intro _ _; trivial
  · simp only [invoke]; exact callFunc_body hN hfn hb _ _
  · refine callsIn_wide.2 ((h _ w2 _ hR2 hargs).mono ?_)
    rintro e w3 ⟨v, v', H3, n3, σ3, rfl, hK, hv, hR3, hm3⟩
    obtain ⟨E', st, pend, xx, hg, hst, hxx, hQ⟩ := h1 _ _ _ hK
    obtain ⟨hoff, r3, hh, hs3, hp3, _, _, _, _, _⟩ := hR3.blk _ _ hg
    have e2 : σ3 (n + 1) = l2 := by rw [hm3.same (n + 1) (by omega), put1_new]
    have e1 : σ3 n = l1 := by rw [hm3.same n (by omega), put1_same _ _ _ n (by omega), put1_new]
    have hb3 : (σ3 (n + 1)).blk = w.heap.size + 1 := by rw [e2, hl2]
    rw [hb3] at hh
    subst hp3
    obtain ⟨w4, hw4⟩ : ∃ w4, w4 = w3.putObj (w.heap.size + 1) (.loop { r3 with state := .exhausted }) := ⟨_, rfl⟩
    have hend : (Instr.endLoop (w.heap.size + 1)).run P w3 = .ok r3.pending w4 := by rw [hw4]; exact run_endLoop (P := P) hh (by rw [hs3]; exact hst)
    have hk : ∀ k, k ≠ (σ3 (n + 1)).blk → w4.heap[k]? = w3.heap[k]? := fun k hk => by rw [hw4]; exact World.putObj_heap_other (by rw [← hb3]; exact hk)
    have hz : w3.heap.size ≤ w4.heap.size := by rw [hw4]; simp [World.putObj]
    have hR4 := hR3.giveUp hg rfl hz hk
    have hm4 : Moves lo σ3 H3 n3 w3 σ3 (H3.upd (n + 1) none) n3 w4 := Moves.write hR3 (by omega) hg rfl (fun c e => by cases e) (by rw [hw4]; rfl) (by rw [hw4]; rfl) (by rw [hw4]; rfl) hz hk
    have hmAll := (hm12.trans hm3).trans hm4
    have ha4 : ARel σ3 n3 N E (n :: ds) { a with defers := [{ target := .collected w.heap.size, args := #[] }] ++ a.defers } := by
      have ha3 := ha.mono hmAll.same hmAll.le
      refine ⟨ha3.tmps, ?_, ?_⟩
      · simp only [dfrOf, List.map_cons, e1, hl1, List.cons_append, List.nil_append]
        rw [ha3.defers]; rfl
      · intro i hi
        rcases List.mem_cons.1 hi with rfl | hi
        · exact ⟨by have := hm3.le; omega, by rw [e1, hl1]⟩
        · exact ha3.inn i hi
    have post : postOf G lo N σ H n w Q (exitOf xx) { a with defers := [{ target := .collected w.heap.size, args := #[] }] ++ a.defers } w4 :=
      ⟨xx, E, n :: ds, _, n3, σ3, rfl, hQ, hR4, ha4, hmAll⟩
    refine ⟨_, _, hend, ?_⟩
    generalize r3.pending = pend at hxx
    unfold xxOf at hxx
    split at hxx
    · cases hxx; exact post
    · cases hxx; exact wpIn_exit post
    · cases hxx; exact wpIn_ret post
    · cases hxx

end Go.AL
