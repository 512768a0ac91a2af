/- The rules of ALRun are the model's: a call from its body. -/
import Derived.Test.YtonhkjkdmfaodaaGreatDoorALSound2
set_option linter.unusedVariables false
set_option linter.unusedSimpArgs false
namespace Go.AL
open Go.RowKit

variable {P : Program} {G lo N : Nat} {σ : Nat → Loc} {H H' : Heap} {n n' : Nat} {w : World}

theorem aLoad_n {t : TypeId} {a v : Value} {H1 : Heap} {k m : Nat} (h : aLoad P t a H k = some (v, H1, m)) (j : Nat) : aLoad P t a H j = some (v, H, j) := by
  unfold aLoad at h ⊢
  split at h
  case h_2 => cases h
  rename_i i o
  split at h
  case isFalse => cases h
  rename_i hs
  rw [if_pos hs]
  split at h
  case h_2 => cases h
  rename_i cs hcs
  try simp only [hcs]
  split at h
  case h_2 => cases h
  rename_i v' hv
  cases h
  rfl

/-- One result. -/
def resRun (tmps : Array Value) : ResultVar → Sem Value
  | .tmp t => pure (tmps.getD t undef)
  | .cell a t => do loadVar t (← asAddr (tmps.getD a undef))

theorem resL_snd (hR : Rel G σ H n w) {E : Env} {tmps : Array Value} (ht : TRel σ n N E tmps) : ∀ (rs : List ResultVar) (vs : List Value), resL P E H rs = some vs →
    ∃ us : List Value, (rs.mapM (resRun tmps)).run P w = .ok us w ∧ us.length = vs.length ∧ ∀ (k : Nat) (x y : Value), vs[k]? = some x → us[k]? = some y → VR σ n x y
  | [], vs, h => by
    simp only [resL, Option.some.injEq] at h
    subst h
    exact ⟨[], by simp, rfl, by simp⟩
  | .tmp t :: r, vs, h => by
    simp only [resL] at h
    split at h
    case h_2 => cases h
    rename_i vs' hvs
    cases h
    obtain ⟨us, h1, h2, h3⟩ := resL_snd hR ht r vs' hvs
    refine ⟨tmps.getD t undef :: us, ?_, by simp [h2], fun k x y hx hy => ?_⟩
    · rw [List.mapM_cons]; simp [resRun, h1]
    · cases k with
      | zero => simp at hx hy; subst hx hy; have := ht.val t; simpa [Array.getD_eq_getD_getElem?] using this
      | succ k => exact h3 k x y (by simpa using hx) (by simpa using hy)
  | .cell a t :: r, vs, h => by
    simp only [resL] at h
    split at h
    case h_2 => cases h
    rename_i v H1 m hl
    split at h
    case h_2 => cases h
    rename_i vs' hvs
    cases h
    obtain ⟨us, h1, h2, h3⟩ := resL_snd hR ht r vs' hvs
    have hl' := aLoad_n hl n
    have ha := ht.val a
    obtain ⟨i, o, hEa⟩ : ∃ i o, E a = .pointer (some ⟨i, o, none⟩) := by
      unfold aLoad at hl
      split at hl
      · rename_i i o he; exact ⟨i, o, he⟩
      · cases hl
    rw [hEa] at ha
    obtain ⟨_, hp⟩ := ha.ptr_inv
    have hrun : (resRun tmps (.cell a t)).run P w = (Instr.loadAt t (tmps.getD a undef)).run P w := by
      simp only [resRun, hp, asAddr, Instr.loadAt, Instr.sureAddr, pure_bind]
    obtain ⟨_, _, v2, h8, h9⟩ := load_same (P := P) hR (ht.val a) hl'
    refine ⟨v2 :: us, ?_, by simp [h2], fun k x y hx hy => ?_⟩
    · rw [List.mapM_cons, Sem.run_bind, hrun, h8, Result.andThen_ok, Sem.run_bind, h1, Result.andThen_ok]; rfl
    · cases k with
      | zero => simp at hx hy; subst hx hy; exact h9
      | succ k => exact h3 k x y (by simpa using hx) (by simpa using hy)

theorem retV_rel {vs us : List Value} (hl : us.length = vs.length) (h : ∀ (k : Nat) (x y : Value), vs[k]? = some x → us[k]? = some y → VR σ n x y) : VR σ n (retV vs) (retV us) := by
  match vs, us, hl with
  | [], [], _ => exact .rig rfl
  | [v], [u], _ => exact h 0 v u rfl rfl
  | v :: v1 :: vs, u :: u1 :: us, hl =>
    refine .tup (by simpa using hl.symm) (fun k x y hx hy => h k x y (by simpa using hx) (by simpa using hy))

theorem results_run {fn : Func} {tmps : Array Value} {us : List Value} (h : (fn.results.toList.mapM (resRun tmps)).run P w = .ok us w) : (results fn tmps).run P w = .ok (retV us) w := by
  have e : results fn tmps = (do let vs ← fn.results.mapM (resRun tmps); pure (if h : vs.size = 1 then vs[0] else .tuple vs)) := by
    unfold results
    congr 2
  rw [e, Array.mapM_eq_mapM_toList]
  simp only [Sem.run_bind, Sem.run_map, h, Result.andThen_ok]
  match us with
  | [] => rfl
  | [v] => rfl
  | v :: v1 :: vs => simp [retV]

theorem dfr_leaves {fn : Func} {tmps : Array Value} {R : Ending → World → Prop} : ∀ (ds : List Nat) (H : Heap) (w : World), Rel G σ H n w → dfrs H ds = true → (∀ i ∈ ds, lo ≤ i) →
    (∀ w', Rel G σ (killAll ds H) n w' → Moves lo σ H n w σ (killAll ds H) n w' → ∃ v, (results fn tmps).run P w' = .ok v w' ∧ R (.returned v) w') →
    LeavesInM Fence.wide 0 P fn tmps R (dfrOf σ ds) .returning w
  | [], H, w, hR, _, _, h => by
    simp only [dfrOf, List.map_nil, LeavesInM, LeavesIn]
    exact h w hR (Moves.refl hR)
  | i :: ds, H, w, hR, hd, hlo, h => by
    simp only [dfrs, Bool.and_eq_true] at hd
    obtain ⟨hd1, hd2⟩ := hd
    split at hd1
    case h_2 => cases hd1
    rename_i hg
    obtain ⟨_, hh⟩ := hR.blk i _ hg
    simp only [dfrOf, List.map_cons, LeavesInM]
    refine ⟨by simp, .inl ⟨(σ i).blk, _, rfl, run_takeDeferred hh, ?_⟩⟩
    have hk : ∀ k, k ≠ (σ i).blk → (w.putObj (σ i).blk (.deferred none)).heap[k]? = w.heap[k]? := fun k hk => World.putObj_heap_other hk
    have hz : w.heap.size ≤ (w.putObj (σ i).blk (.deferred none)).heap.size := by simp [World.putObj]
    have hR' : Rel G σ (H.upd i none) n (w.putObj (σ i).blk (.deferred none)) := hR.giveUp hg rfl hz hk
    have hm : Moves lo σ H n w σ (H.upd i none) n (w.putObj (σ i).blk (.deferred none)) := Moves.write hR (hlo i (by simp)) hg rfl (fun c e => by cases e) rfl rfl rfl hz hk
    exact dfr_leaves ds (H.upd i none) _ hR' hd2 (fun j hj => hlo j (by simp [hj])) (fun w' h1 h2 => h w' h1 (hm.trans h2))

theorem ofArgs_rel {args args' : Array Value} {k : Nat} (h : ArrR σ n args args') (hk : args.size ≤ k) : TRel σ n k (ofArgs args) (args' ++ Array.replicate (k - args'.size) undef) := by
  have hs := h.size
  refine ⟨by simp; omega, fun j => ?_⟩
  rw [Array.getD_eq_getD_getElem?, Array.getElem?_append]
  unfold ofArgs
  rw [Array.getD_eq_getD_getElem?]
  by_cases hj : j < args'.size
  · rw [if_pos hj]
    have hj' : j < args.size := by rw [h.size]; exact hj
    rw [Array.getElem?_eq_getElem hj', Array.getElem?_eq_getElem hj]
    exact h.val j _ _ (Array.getElem?_eq_getElem hj') (Array.getElem?_eq_getElem hj)
  · rw [if_neg hj, Array.getElem?_eq_none (by rw [h.size]; omega)]
    simp only [Option.getD_none, Array.getElem?_replicate]
    split <;> exact .undef

theorem call_mk {f : FuncId} {args : Array Value} {K : Value → Heap → Nat → Prop} {fn : Func} {c : Code} (Q : Post) (hfn : P.funcs[f]? = some fn) (hb : fn.body = some c) (hok : codeOk G fn.ntmps c = true) (hsz : args.size ≤ fn.ntmps)
    (h : CodeSnd P G true lo fn.ntmps c (ofArgs args) [] H n Q)
    (h1 : ∀ x E' ds' H' n', Q x E' ds' H' n' → (x = .normal ∨ x = .ret) ∧ dfrs H' ds' = true ∧ (∀ i ∈ ds', lo ≤ i) ∧ ∃ vs, resL P E' (killAll ds' H') fn.results.toList = some vs ∧ K (retV vs) (killAll ds' H') n') : CallSnd P G lo f args H n K := by
  intro σ w args' hR ha
  refine (callsIn_wide (n := 0)).1 (callsIn_of_wp_marks hfn hb trivial ?_)
  refine wpIn_mono (h hok Fence.wide 0 σ w _ (.inl rfl) hR ⟨ofArgs_rel ha hsz, rfl, by simp⟩) ?_
  rintro e a' w' ⟨x, E', ds', H', n', σ', rfl, hq, hR', ha', hm⟩
  obtain ⟨hx, hd, hlo, vs, hvs, hK⟩ := h1 _ _ _ _ _ hq
  have main : LeavesInM Fence.wide 0 P fn a'.tmps (callPost G lo σ H n w K) a'.defers .returning w' := by
    rw [ha'.defers]
    refine dfr_leaves (lo := lo) ds' H' w' hR' hd hlo (fun w2 hR2 hm2 => ?_)
    obtain ⟨us, h2, h3, h4⟩ := resL_snd (P := P) hR2 ha'.tmps _ _ hvs
    exact ⟨retV us, results_run h2, retV vs, retV us, _, _, σ', rfl, hK, retV_rel h3 h4, hR2, hm.trans hm2⟩
  rcases hx with rfl | rfl
  · exact main
  · exact main

end Go.AL
