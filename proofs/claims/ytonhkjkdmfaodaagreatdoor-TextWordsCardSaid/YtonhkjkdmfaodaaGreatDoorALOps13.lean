/- Each operation of the abstract machine is the model's: ALL OF THEM. -/
import Derived.Test.YtonhkjkdmfaodaaGreatDoorALOps12
import Derived.Orders
set_option linter.unusedVariables false
set_option linter.unusedSimpArgs false
namespace Go.AL
open Go.RowKit

variable {P : Program} {G lo : Nat} {σ : Nat → Loc} {H H' : Heap} {n n' : Nat} {w : World}

def SndO (P : Program) (G lo : Nat) (σ : Nat → Loc) (H : Heap) (n : Nat) (w : World) (s : Sem Next) (v : Value) (H' : Heap) (n' : Nat) : Prop :=
  ∃ nx w' σ', s.run P w = .ok nx w' ∧ ((∃ v', nx = .value v' ∧ VR σ' n' v v') ∨ (nx = .skip ∧ v = undef)) ∧ Rel G σ' H' n' w' ∧ Moves lo σ H n w σ' H' n' w'

theorem Snd.value {s : Sem Value} {v : Value} (h : Snd P G lo σ H n w s v H' n') : SndO P G lo σ H n w (do Pure.pure (Next.value (← s))) v H' n' := by
  obtain ⟨v', w', σ', h1, h2, h3, h4⟩ := h
  exact ⟨.value v', w', σ', by simp [h1], .inl ⟨v', rfl, h2⟩, h3, h4⟩
theorem SndU.skip {s : Sem Unit} {v : Value} (h : v = undef ∧ SndU P G lo σ H n w s H' n') : SndO P G lo σ H n w (do s; pure Next.skip) v H' n' := by
  obtain ⟨rfl, w', σ', h1, h3, h4⟩ := h
  exact ⟨.skip, w', σ', by simp [h1], .inr ⟨rfl, rfl⟩, h3, h4⟩
theorem SndV.value {s : Sem Value} {v : Value} (h : SndV P σ n w s v) (hR : Rel G σ H n w) : SndO P G lo σ H n w (do pure (Next.value (← s))) v H n := (h.snd hR).value
theorem SndO.val {v v' : Value} (hR : Rel G σ H n w) (h : VR σ n v v') : SndO P G lo σ H n w (do pure (Next.value v')) v H n :=
  ⟨.value v', w, σ, rfl, .inl ⟨v', rfl, h⟩, hR, Moves.refl hR⟩

theorem okV_some {v : Option Value} {H : Heap} {n : Nat} {x : Value} {H' : Heap} {n' : Nat} (h : okV v H n = some (x, H', n')) : v = some x ∧ H' = H ∧ n' = n := by
  unfold okV at h
  split at h
  · cases h; exact ⟨rfl, rfl, rfl⟩
  · cases h

theorem rigid_snd (hR : Rel G σ H n w) {o : Oper} (hs : ∀ cs b, o.op ≠ .select cs b) {E ρ : Operand → Value} (hE : ∀ x ∈ o.op.operands, VR σ n (E x) (ρ x)) {v : Value} (h : aRigid P o E H n = some (v, H', n')) :
    SndO P G lo σ H n w (execOp ρ o) v H' n' := by
  unfold aRigid at h
  split at h
  case isFalse => cases h
  rename_i hr
  split at h
  case h_2 => cases h
  rename_i u hp
  split at h
  case isFalse => cases h
  rename_i hv
  cases h
  have hcong : execOp ρ o = execOp E o := execOp_congr o hs (fun x hx => (rigid_eq (List.all_eq_true.1 hr x (by simpa using hx)) (hE x hx)).symm)
  rw [hcong]
  exact ⟨.value v, w, σ, run_of_pv hp w, .inl ⟨v, rfl, .rig hv⟩, hR, Moves.refl hR⟩

theorem parts_rel13 {E ρ : Operand → Value} {ps : Array (Nat × Operand)} (hE : ∀ x ∈ (ps.toList.map (·.2)).toArray, VR σ n (E x) (ρ x)) :
    (ps.toList.map fun (i, x) => (i, E x)).length = (ps.map fun (i, x) => (i, ρ x)).size ∧
    ∀ (j : Nat) (p q : Nat × Value), (ps.toList.map fun (i, x) => (i, E x))[j]? = some p → (ps.map fun (i, x) => (i, ρ x))[j]? = some q → p.1 = q.1 ∧ VR σ n p.2 q.2 := by
  refine ⟨by simp, fun j p q hp hq => ?_⟩
  simp only [List.getElem?_map, Array.getElem?_map, Array.getElem?_toList] at hp hq
  cases hj : ps[j]? with
  | none => simp [hj] at hp
  | some y =>
    simp only [hj, Option.map_some, Option.some.injEq] at hp hq
    subst hp hq
    refine ⟨rfl, hE _ ?_⟩
    simp only [List.mem_toArray, List.mem_map]
    exact ⟨y, Array.mem_toList_iff.2 (Array.mem_of_getElem? hj), rfl⟩

theorem opt_rel {E ρ : Operand → Value} {l : Option Operand} (hE : ∀ x, l = some x → VR σ n (E x) (ρ x)) :
    (∀ a, l.map E = some a → ∃ b, l.map ρ = some b ∧ VR σ n a b) ∧ (l.map E = none → l.map ρ = none) := by
  cases l with
  | none => exact ⟨by simp, by simp⟩
  | some x => exact ⟨fun a h => by simp at h; subst h; exact ⟨_, rfl, hE x rfl⟩, by simp⟩

theorem arr_rel {E ρ : Operand → Value} {a : Array Operand} (hE : ∀ x ∈ a, VR σ n (E x) (ρ x)) :
    (a.map E).size = (a.map ρ).size ∧ ∀ (k : Nat) (x y : Value), (a.map E)[k]? = some x → (a.map ρ)[k]? = some y → VR σ n x y := by
  refine ⟨by simp, fun k x y hx hy => ?_⟩
  simp only [Array.getElem?_map] at hx hy
  cases hk : a[k]? with
  | none => simp [hk] at hx
  | some z =>
    simp only [hk, Option.map_some, Option.some.injEq] at hx hy
    subst hx hy
    exact hE z (Array.mem_of_getElem? hk)

/-- The builtin operations. -/
theorem builtin_snd (hR : Rel G σ H n w) {o : Oper} {b : Builtin} {args : Array Operand} {argTypes : Array TypeId} (ho : o.op = .call { callee := .builtin b, args, argTypes }) {E ρ : Operand → Value}
    (hE : ∀ x ∈ args, VR σ n (E x) (ρ x)) {v : Value} (h : aOp P lo o E H n = some (v, H', n')) : SndO P G lo σ H n w (execOp ρ o) v H' n' := by
  have hE' : ∀ x ∈ o.op.operands, VR σ n (E x) (ρ x) := by
    rw [ho]; simpa [Op.operands, Call.operands] using hE
  have hrig : ∀ {v}, aRigid P o E H n = some (v, H', n') → SndO P G lo σ H n w (execOp ρ o) v H' n' := fun h => rigid_snd hR (by rw [ho]; simp) hE' h
  have hex : ∀ {s : Sem Value}, (∀ ts, builtin b argTypes o.type ts (args.map ρ) = (do pure (Next.value (← s)))) → Snd P G lo σ H n w s v H' n' → SndO P G lo σ H n w (execOp ρ o) v H' n' := by
    intro s hs hsnd
    obtain ⟨nx, w', σ', h1, h2⟩ := hsnd.value
    refine ⟨nx, w', σ', ?_, h2⟩
    rw [← h1]
    obtain ⟨dst, op, type, pos, after, guard⟩ := o
    simp only at ho
    subst ho
    simp only [execOp, resolve, Sem.run_bind, Sem.run_pure, Result.andThen_ok, invoke, hs]
  unfold aOp at h
  rw [ho] at h
  simp only at h
  have mem1 : ∀ {x : Operand}, args.toList = [x] → args = #[x] ∧ VR σ n (E x) (ρ x) := fun {x} e => by
    have : args = #[x] := by rw [← Array.toList_inj]; exact e
    exact ⟨this, hE x (by simp [this])⟩
  have mem2 : ∀ {x y : Operand}, args.toList = [x, y] → args = #[x, y] ∧ VR σ n (E x) (ρ x) ∧ VR σ n (E y) (ρ y) := fun {x y} e => by
    have : args = #[x, y] := by rw [← Array.toList_inj]; exact e
    exact ⟨this, hE x (by simp [this]), hE y (by simp [this])⟩
  split at h
  · rename_i x t ha ht
    obtain ⟨ea, hx⟩ := mem1 ha
    have et : argTypes = #[t] := by rw [← Array.toList_inj]; exact ht
    exact hex (fun ts => by rw [ea, et]; simp [builtin]) (len_snd (ty := o.type) hR hx h)
  · rename_i s x t u ha ht
    obtain ⟨ea, hs, hx⟩ := mem2 ha
    have et : argTypes = #[t, u] := by rw [← Array.toList_inj]; exact ht
    split at h
    · cases h
    · cases h
    · rename_i d hd hu
      exact hex (fun ts => by rw [ea, et]; simp [builtin]) (append_snd (ty := o.type) hR hs hx ⟨d, hu, fun k e => hd k e⟩ h)
  · rename_i d x t tl ha ht
    obtain ⟨ea, hd, hx⟩ := mem2 ha
    have et : argTypes = (t :: tl).toArray := by rw [← Array.toList_inj]; exact ht
    exact hex (fun ts => by rw [ea, et]; simp [builtin]) (copy_snd (ts := tl) (ty := o.type) hR hd hx h)
  · rename_i x t ha ht
    obtain ⟨ea, hx⟩ := mem1 ha
    have et : argTypes = #[t] := by rw [← Array.toList_inj]; exact ht
    exact hex (fun ts => by rw [ea, et]; simp [builtin]) (clear_snd (ty := o.type) hR hx h)
  · rename_i m k t tl ha ht
    obtain ⟨ea, hm, hk⟩ := mem2 ha
    have et : argTypes = (t :: tl).toArray := by rw [← Array.toList_inj]; exact ht
    exact hex (fun ts => by rw [ea, et]; simp [builtin]) (delete_snd (ts := tl) (ty := o.type) hR hm hk h)
  · rename_i x t ha ht
    obtain ⟨ea, hx⟩ := mem1 ha
    have et : argTypes = #[t] := by rw [← Array.toList_inj]; exact ht
    exact hex (fun ts => by rw [ea, et]; simp [builtin]) (cap_snd (ty := o.type) hR hx h)
  · rename_i x ts ha
    obtain ⟨ea, hx⟩ := mem1 ha
    exact hex (fun ts => by rw [ea]; simp [builtin]) (sliceData_snd (ts := argTypes) (ty := o.type) hR hx h)
  · rename_i x k pt it ha ht
    obtain ⟨ea, hx, hk⟩ := mem2 ha
    have et : argTypes = #[pt, it] := by rw [← Array.toList_inj]; exact ht
    exact hex (fun ts => by rw [ea, et]; simp [builtin]) (unsafeString_snd (it := it) (ty := o.type) hR hx hk h)
  · exact hrig h

theorem aOp_snd (hR : Rel G σ H n w) {o : Oper} {E ρ : Operand → Value} (hE : ∀ x ∈ o.op.operands, VR σ n (E x) (ρ x)) {v : Value} (h : aOp P lo o E H n = some (v, H', n')) : SndO P G lo σ H n w (execOp ρ o) v H' n' := by
  have hrig : (∀ cs b, o.op ≠ .select cs b) → ∀ {v}, aRigid P o E H n = some (v, H', n') → SndO P G lo σ H n w (execOp ρ o) v H' n' := fun hs {v} h => rigid_snd hR hs hE h
  obtain ⟨dst, op, type, pos, after, guard⟩ := o
  cases op with
  | move x =>
    simp only [aOp, Option.some.injEq, Prod.mk.injEq] at h
    obtain ⟨rfl, rfl, rfl⟩ := h
    exact SndO.val hR (hE x (by simp [Op.operands]))
  | assign x =>
    simp only [aOp, Option.some.injEq, Prod.mk.injEq] at h
    obtain ⟨rfl, rfl, rfl⟩ := h
    exact SndO.val hR (hE x (by simp [Op.operands]))
  | pick c a b =>
    simp only [aOp] at h
    split at h
    case h_2 => cases h
    rename_i t ht
    cases h
    have hc := hE c (by simp [Op.operands])
    rw [ht] at hc
    have hcv : ρ c = .bool t := (rigid_eq (by simp [rigid, sc2, sc1, sc0]) hc).symm
    refine ⟨.value (if t then ρ a else ρ b), w, σ, by simp [execOp, hcv, asBool], .inl ⟨_, rfl, ?_⟩, hR, Moves.refl hR⟩
    cases t
    · exact hE b (by simp [Op.operands])
    · exact hE a (by simp [Op.operands])
  | alloc t => simp only [aOp] at h; exact (alloc_snd hR h).value
  | box t x => simp only [aOp] at h; exact (box_snd hR (hE x (by simp [Op.operands])) h).value
  | build t ps =>
    simp only [aOp] at h
    obtain ⟨h0, e1, e2⟩ := okV_some h
    clear h
    subst e1 e2
    obtain ⟨h1, h2⟩ := parts_rel13 (σ := σ) (n := n') (E := E) (ρ := ρ) (ps := ps) hE
    exact (build_snd h1 h2 h0).value hR
  | buildSlice t len ps =>
    simp only [aOp] at h
    obtain ⟨h1, h2⟩ := parts_rel13 (σ := σ) (n := n) (E := E) (ρ := ρ) (ps := ps) hE
    exact (buildSlice_snd hR h1 h2 h).value
  | load t a => simp only [aOp] at h; exact (load_snd hR (hE a (by simp [Op.operands])) h).value
  | store t a x =>
    simp only [aOp] at h
    split at h
    · rename_i r hr; cases h; exact SndU.skip (store_snd hR (hE a (by simp [Op.operands])) (hE x (by simp [Op.operands])) hr)
    · exact SndU.skip (store0_snd hR (hE a (by simp [Op.operands])) (hE x (by simp [Op.operands])) h)
  | nilCheck x =>
    simp only [aOp] at h
    split at h
    case h_2 => cases h
    rename_i a hx
    cases h
    have hv := hE x (by simp [Op.operands])
    rw [hx] at hv
    obtain ⟨a', ha, hn⟩ := hv.ptr_form
    cases a' with
    | none => simp at hn
    | some a' =>
      refine ⟨.value (ρ x), w, σ, by simp [execOp, ha], .inl ⟨_, rfl, ?_⟩, hR, Moves.refl hR⟩
      rw [hx]; exact hv
  | binOp op t x y yt =>
    simp only [aOp] at h
    split at h
    · rename_i u hu
      cases h
      exact (bin_snd hR (hE x (by simp [Op.operands])) (hE y (by simp [Op.operands])) hu).value hR
    · exact hrig (by simp) h
  | unOp op t x => simp only [aOp] at h; exact hrig (by simp) h
  | convert s d x =>
    simp only [aOp] at h
    split at h
    · rename_i r hr
      cases h
      exact (convert_snd hR (hE x (by simp [Op.operands])) hr).value
    · split at h
      · rename_i r hr
        cases h
        exact (convPtr_snd hR (hE x (by simp [Op.operands])) hr).value
      · exact hrig (by simp) h
  | makeInterface t x =>
    simp only [aOp] at h
    split at h
    · cases h
    · cases h
    · rename_i d hd hu
      cases h
      refine ⟨.value (.iface t (ρ x)), w, σ, ?_, .inl ⟨_, rfl, .ifc (hE x (by simp [Op.operands]))⟩, hR, Moves.refl hR⟩
      simp only [execOp, Instr.makeInterface, Sem.run_bind, run_underlying hu, Result.andThen_ok]
      cases d <;> first | exact absurd rfl (hd _) | rfl
  | makeFunc f a b =>
    simp only [aOp] at h
    split at h
    case isFalse => cases h
    rename_i hf
    cases h
    obtain ⟨h1, h2⟩ := arr_rel (σ := σ) (n := n) (E := E) (ρ := ρ) (a := a) (fun x hx => hE x (by simp [Op.operands, hx]))
    obtain ⟨h3, h4⟩ := arr_rel (σ := σ) (n := n) (E := E) (ρ := ρ) (a := b) (fun x hx => hE x (by simp [Op.operands, hx]))
    exact SndO.val hR (.fn hf h1 h3 h2 h4)
  | makeMap t r =>
    simp only [aOp] at h
    cases r with
    | some r => cases h
    | none =>
      simp only [Option.some.injEq, Prod.mk.injEq] at h
      obtain ⟨rfl, rfl, rfl⟩ := h
      have hb : BR (put1 σ n ⟨w.heap.size, 0, 0, 0, true, true⟩) (n + 1) (w.alloc (.map #[] 0)) n (.map [] 0) := by
        refine ⟨by rw [put1_new], #[], ?_, rfl, by simp⟩
        rw [put1_new]
        exact heap_new w _
      refine ⟨.value (.map (some w.heap.size)), w.alloc (.map #[] 0), put1 σ n ⟨w.heap.size, 0, 0, 0, true, true⟩, ?_, .inl ⟨_, rfl, ?_⟩, hR.alloc rfl hb, Moves.alloc hR _ _ _ rfl⟩
      · simp [execOp, Instr.makeMap]
      · have := VR.mp (σ := put1 σ n ⟨w.heap.size, 0, 0, 0, true, true⟩) (n := n + 1) (i := n) ⟨by omega, by rw [put1_new]⟩ (by rw [put1_new])
        rw [put1_new] at this
        exact this
  | makeSlice t l c => simp only [aOp] at h; exact (makeSlice_snd hR (hE l (by simp [Op.operands])) (hE c (by simp [Op.operands])) h).value
  | slice t x l hh m =>
    simp only [aOp] at h
    obtain ⟨a1, a2⟩ := opt_rel (σ := σ) (n := n) (E := E) (ρ := ρ) (l := l) (fun y hy => hE y (by simp [Op.operands, hy]))
    obtain ⟨b1, b2⟩ := opt_rel (σ := σ) (n := n) (E := E) (ρ := ρ) (l := hh) (fun y hy => hE y (by simp [Op.operands, hy]))
    obtain ⟨c1, c2⟩ := opt_rel (σ := σ) (n := n) (E := E) (ρ := ρ) (l := m) (fun y hy => hE y (by simp [Op.operands, hy]))
    split at h
    · rename_i u hu
      cases h
      exact (sliceAt_snd (hE x (by simp [Op.operands])) a1 a2 b1 b2 c1 c2 hu).value hR
    · split at h
      · rename_i u hu
        cases h
        exact (sliceArr_snd (hE x (by simp [Op.operands])) a1 a2 b1 b2 c1 c2 hu).value hR
      · exact hrig (by simp) h
  | fieldAddr t x f =>
    simp only [aOp] at h
    obtain ⟨h0, e1, e2⟩ := okV_some h
    clear h
    subst e1 e2
    exact (fieldAddr_snd (hE x (by simp [Op.operands])) h0).value hR
  | field t x f =>
    simp only [aOp] at h
    obtain ⟨h0, e1, e2⟩ := okV_some h
    clear h
    subst e1 e2
    exact (field_snd (hE x (by simp [Op.operands])) h0).value hR
  | indexAddr t x j =>
    simp only [aOp] at h
    obtain ⟨h0, e1, e2⟩ := okV_some h
    clear h
    subst e1 e2
    exact (indexAddr_snd (hE x (by simp [Op.operands])) (hE j (by simp [Op.operands])) h0).value hR
  | index t x j =>
    simp only [aOp] at h
    split at h
    · rename_i u hu
      cases h
      exact (indexAgg_snd (hE x (by simp [Op.operands])) (hE j (by simp [Op.operands])) hu).value hR
    · exact hrig (by simp) h
  | lookup t m k ok => simp only [aOp] at h; exact (lookup_snd hR (hE m (by simp [Op.operands])) (hE k (by simp [Op.operands])) h).value
  | mapUpdate t m k x => simp only [aOp] at h; exact SndU.skip (mapUpdate_snd hR (hE m (by simp [Op.operands])) (hE k (by simp [Op.operands])) (hE x (by simp [Op.operands])) h)
  | insert t m k x => simp only [aOp] at h; exact SndU.skip (mapUpdate_snd hR (hE m (by simp [Op.operands])) (hE k (by simp [Op.operands])) (hE x (by simp [Op.operands])) h)
  | mapEntry t m k => simp only [aOp] at h; exact (mapEntry_snd hR (hE m (by simp [Op.operands])) (hE k (by simp [Op.operands])) h).value
  | entryStore t m b x => simp only [aOp] at h; exact SndU.skip (entryStore_snd hR (hE m (by simp [Op.operands])) (hE b (by simp [Op.operands])) (hE x (by simp [Op.operands])) h)
  | range t x => simp only [aOp] at h; exact (range_snd hR (hE x (by simp [Op.operands])) h).value
  | next x s =>
    cases s with
    | false => simp only [aOp] at h; cases h
    | true => simp only [aOp] at h; exact (nextS_snd hR (hE x (by simp [Op.operands])) h).value
  | entry x => simp only [aOp] at h; exact (entry_snd hR (hE x (by simp [Op.operands])) h).value
  | typeAssert x xt t ok =>
    simp only [aOp] at h
    obtain ⟨h0, e1, e2⟩ := okV_some h
    clear h
    subst e1 e2
    exact (typeAssert_snd (hE x (by simp [Op.operands])) h0).value hR
  | extract x j =>
    simp only [aOp] at h
    split at h
    case h_2 => cases h
    rename_i vs hx
    obtain ⟨h0, e1, e2⟩ := okV_some h
    clear h
    subst e1 e2
    have hv := hE x (by simp [Op.operands])
    rw [hx] at hv
    obtain ⟨a', ha, hsz, hr⟩ := hv.tup_inv
    have hj : j < a'.size := by rw [← hsz]; exact (Array.getElem?_eq_some_iff.1 h0).1
    refine ⟨.value a'[j], w, σ, ?_, .inl ⟨_, rfl, hr j _ _ h0 (Array.getElem?_eq_getElem hj)⟩, hR, Moves.refl hR⟩
    simp [execOp, Instr.extract, ha, Array.getElem?_eq_getElem hj]
  | call c =>
    obtain ⟨callee, args, argTypes⟩ := c
    cases callee with
    | builtin b => exact builtin_snd hR (b := b) (args := args) (argTypes := argTypes) rfl (by simpa [Op.operands, Call.operands] using hE) h
    | value f => simp only [aOp] at h; cases h
    | invoke r m => simp only [aOp] at h; cases h
  | ready g => simp only [aOp] at h; cases h
  | waits g => simp only [aOp] at h; cases h
  | sliceToArrayPointer t x => simp only [aOp] at h; cases h
  | makeChan t x => simp only [aOp] at h; cases h
  | go c => simp only [aOp] at h; cases h
  | defer c => simp only [aOp] at h; cases h
  | panic x => simp only [aOp] at h; cases h
  | send c x => simp only [aOp] at h; cases h
  | recv t c ok => simp only [aOp] at h; cases h
  | select cs b => simp only [aOp] at h; cases h

end Go.AL
