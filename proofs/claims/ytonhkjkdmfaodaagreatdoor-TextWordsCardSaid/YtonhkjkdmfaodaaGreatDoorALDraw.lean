/- One operation of a region that draws its order. -/
import Derived.Test.YtonhkjkdmfaodaaGreatDoorALSound5
import Derived.Test.YtonhkjkdmfaodaaGreatDoorALExt2
set_option linter.unusedVariables false
set_option linter.unusedSimpArgs false
namespace Go.AL
open Go.RowKit

variable {P : Program} {G lo N : Nat} {σ : Nat → Loc} {H H' : Heap} {n n' : Nat} {w : World}

/-- One operation comes to one value. -/
def OneSnd (P : Program) (G lo : Nat) (o : Oper) (E : Env) (H : Heap) (n : Nat) (v : Value) (H' : Heap) (n' : Nat) : Prop :=
  ∀ (top : Bool) (F : Fence) (nn : Nat) (σ : Nat → Loc) (w : World) (a : Act) (K : Act → World → Prop) (Q : Exit → Act → World → Prop), Fen top F → Rel G σ H n w → (∀ x ∈ o.op.operands, VR σ n (ev E x) (a.eval x)) →
    (∀ v' w' σ', VR σ' n' v v' → Rel G σ' H' n' w' → Moves lo σ H n w σ' H' n' w' → K (a.put o.dst v') w') → o.wpIn F nn P a w K Q

theorem one_prim {o : Oper} {E : Env} {v : Value} (ho : aOp P lo o (ev E) H n = some (v, H', n')) : OneSnd P G lo o E H n v H' n' := by
  intro top F nn σ w a K Q hF hR hE hk
  refine ⟨fun f _ => hF.fn f, ?_⟩
  have hnd : ∀ c, o.op ≠ .defer c := by
    intro c e
    unfold aOp at ho
    rw [e] at ho
    cases ho
  rw [Oper.semAt_eq _ _ _ hnd]
  obtain ⟨nx, w', σ', h1, h2, h3, h4⟩ := aOp_snd hR (E := ev E) (ρ := a.eval) hE ho
  rw [h1]
  rcases h2 with ⟨v', rfl, hv⟩ | ⟨rfl, rfl⟩
  · exact hk _ _ _ hv h3 h4
  · exact hk _ _ _ .undef h3 h4

theorem func_rel' {E : Env} {a : Act} {f : Operand} {g : FuncId} {x y : Array Value} (h : VR σ n (ev E f) (a.eval f)) (hf : ev E f = .func (.func g) x y) :
    ∃ x' y', a.eval f = .func (.func g) x' y' ∧ ArrR σ n x x' ∧ ArrR σ n y y' := by
  rw [hf] at h
  obtain ⟨x', y', h1, h2, h3, h4, h5⟩ := h.fn_inv rfl
  exact ⟨x', y', h1, ⟨h2, h4⟩, ⟨h3, h5⟩⟩
theorem ArrR.map' {E : Env} {a : Act} {args : Array Operand} (h : ∀ x ∈ args, VR σ n (ev E x) (a.eval x)) : ArrR σ n (args.map (ev E)) (args.map a.eval) := by
  obtain ⟨h1, h2⟩ := arr_rel (σ := σ) (n := n) (E := ev E) (ρ := a.eval) (a := args) h
  exact ⟨h1, h2⟩

theorem one_call (hN : NoGor P) {o : Oper} {E : Env} {v : Value} {f : Operand} {args : Array Operand} {tys : Array TypeId} {g : FuncId} {x y : Array Value} {fn : Func} {c : Code}
    (ho : o.op = .call { callee := .value f, args := args, argTypes := tys }) (hf : ev E f = .func (.func g) x y) (hfn : P.funcs[g]? = some fn) (hb : fn.body = some c)
    (hc : CallSnd P G lo g (x ++ args.map (ev E) ++ y) H n (fun v1 H1 n1 => v1 = v ∧ H1 = H' ∧ n1 = n')) : OneSnd P G lo o E H n v H' n' := by
  intro top F nn σ w a K Q hF hR hE hk
  refine ⟨fun f _ => hF.fn f, ?_⟩
  rw [Oper.semAt_eq _ _ _ (by rw [ho]; simp)]
  obtain ⟨x', y', h1, h2, h3⟩ := func_rel' (hE f (by rw [ho]; simp [Op.operands, Call.operands])) hf
  have ha := ArrR.map' (args := args) (fun z hz => hE z (by rw [ho]; simp [Op.operands, Call.operands, hz]))
  rw [callExec ho h1]
  simp only [invoke, callFunc_body hN hfn hb]
  refine ⟨fun hd => (by rw [hF.depth] at hd; cases hd), hF.calls ?_⟩
  refine (hc σ w _ hR ((h2.append ha).append h3)).mono ?_
  rintro e w' ⟨v1, v', H1, n1, σ1, rfl, ⟨rfl, rfl, rfl⟩, hv, hR1, hm1⟩
  exact hk _ _ _ hv hR1 hm1

theorem ext_run (hN : NoGor P) {fn : Func} {g : FuncId} {v : Value} {A x' y' B : Array Value} (hall : ArrR σ n A (x' ++ B ++ y')) (hfn : P.funcs[g]? = some fn) (hb : fn.body = none) (hx : (Extern.findNext fn).isNone = true)
    (he : aExt P fn A H n = some (v, H', n')) (w : World) : H' = H ∧ n' = n ∧ ∃ v', (invoke (.fn (.func g) y') (x' ++ B)).run P w = .ok (.value v') w ∧ VR σ n v v' := by
  obtain ⟨e, v', hfe, hrun, hv, rfl, rfl⟩ : ∃ e v', Extern.find fn = some e ∧ (∀ w, (e (x' ++ B ++ y')).run P w = .ok v' w) ∧ VR σ n v v' ∧ H' = H ∧ n' = n := by
    generalize hA' : x' ++ B ++ y' = A' at hall ⊢
    unfold aExt at he
    split at he
    · rename_i hne
      split at he
      case h_2 => cases he
      rename_i z hz
      cases he
      obtain ⟨e, he1, he2⟩ := ext_rows hne
      have e1 : A = #[v] := by rw [← Array.toList_inj]; exact hz
      subst e1
      have hs := hall.size
      obtain ⟨v', rfl⟩ : ∃ v', A' = #[v'] := by
        obtain ⟨l⟩ := A'
        match l, hs with
        | [z], _ => exact ⟨z, rfl⟩
      exact ⟨e, v', he1, fun w => by rw [he2]; rfl, hall.val 0 _ _ rfl rfl, rfl, rfl⟩
    · split at he
      case h_2 => cases he
      rename_i e hfe
      split at he
      case isFalse => cases he
      rename_i hr
      split at he
      case h_2 => cases he
      rename_i u hu
      split at he
      case isFalse => cases he
      rename_i hru
      cases he
      have : A = A' := arr_eq_of hall.size hr hall.val (fun _ _ => rigid_eq)
      subst this
      exact ⟨e, v, hfe, fun w => run_of_pv hu w, .rig hru, rfl, rfl⟩
  have hnx : Extern.findNext fn = none := by simpa using hx
  have hne : ¬ fn.name = "runtime.NumGoroutine" := by simpa using hN g fn hfn
  have hrun' := hrun w
  simp only [Array.append_assoc] at hrun'
  exact ⟨rfl, rfl, v', by simp [invoke, callFunc, hfn, hne, hb, hnx, hfe, hrun', mark, Sem.run], hv⟩

theorem one_ext (hN : NoGor P) {o : Oper} {E : Env} {v : Value} {f : Operand} {args : Array Operand} {tys : Array TypeId} {g : FuncId} {x y : Array Value} {fn : Func}
    (ho : o.op = .call { callee := .value f, args := args, argTypes := tys }) (hf : ev E f = .func (.func g) x y) (hfn : P.funcs[g]? = some fn) (hb : fn.body = none) (hx : (Extern.findNext fn).isNone = true)
    (he : aExt P fn (x ++ args.map (ev E) ++ y) H n = some (v, H', n')) : OneSnd P G lo o E H n v H' n' := by
  intro top F nn σ w a K Q hF hR hE hk
  refine ⟨fun f _ => hF.fn f, ?_⟩
  rw [Oper.semAt_eq _ _ _ (by rw [ho]; simp)]
  obtain ⟨x', y', h1, h2, h3⟩ := func_rel' (hE f (by rw [ho]; simp [Op.operands, Call.operands])) hf
  have ha := ArrR.map' (args := args) (fun z hz => hE z (by rw [ho]; simp [Op.operands, Call.operands, hz]))
  rw [callExec ho h1]
  obtain ⟨rfl, rfl, v', hrun, hv⟩ := ext_run hN ((h2.append ha).append h3) hfn hb hx he w
  rw [hrun]
  exact hk _ _ _ hv hR (Moves.refl hR)

theorem one_mnz (hN : NoGor P) {o : Oper} {E : Env} {v : Value} {f : Operand} {args : Array Operand} {tys : Array TypeId} {g : FuncId} {x y : Array Value} {fn : Func}
    (ho : o.op = .call { callee := .value f, args := args, argTypes := tys }) (hf : ev E f = .func (.func g) x y) (hfn : P.funcs[g]? = some fn) (hb : fn.body = none) (hx : (Extern.findNext fn).isNone = true)
    (he : aMnz P fn (x ++ args.map (ev E) ++ y) H n = some (v, H', n')) : OneSnd P G lo o E H n v H' n' := by
  intro top F nn σ w a K Q hF hR hE hk
  refine ⟨fun f _ => hF.fn f, ?_⟩
  rw [Oper.semAt_eq _ _ _ (by rw [ho]; simp)]
  obtain ⟨x', y', h1, h2, h3⟩ := func_rel' (hE f (by rw [ho]; simp [Op.operands, Call.operands])) hf
  have ha := ArrR.map' (args := args) (fun z hz => hE z (by rw [ho]; simp [Op.operands, Call.operands, hz]))
  have hall := (h2.append ha).append h3
  rw [callExec ho h1]
  generalize hA : x ++ args.map (ev E) ++ y = A at he hall
  generalize hA' : x' ++ args.map a.eval ++ y' = A' at hall
  unfold aMnz at he
  split at he
  case isFalse => cases he
  rename_i hname
  split at he
  case h_2 => cases he
  rename_i k t hk1 ht1
  split at he
  case h_2 => cases he
  rename_i e hu
  split at he
  case isFalse => cases he
  rename_i hkk
  cases he
  have e1 : A = #[.int .i64 k] := by rw [← Array.toList_inj]; exact hk1
  subst e1
  have hs := hall.size
  obtain ⟨v', rfl⟩ : ∃ v', A' = #[v'] := by
    obtain ⟨l⟩ := A'
    match l, hs with
    | [z], _ => exact ⟨z, rfl⟩
  have hv' : Value.int .i64 k = v' := rigid_eq rfl (hall.val 0 _ _ rfl rfl)
  subst hv'
  obtain ⟨u, w', σ', hrun, hv, hR', hm⟩ := makeNoZero_snd (P := P) (lo := lo) hR (ps := fn.params) ht1 hu hkk.1 hkk.2
  have hnx : Extern.findNext fn = none := by simpa using hx
  have hrun2 : (invoke (.fn (.func g) y') (x' ++ args.map a.eval)).run P w = .ok (.value u) w' := by
    have hne : ¬ fn.name = "runtime.NumGoroutine" := by simpa using hN g fn hfn
    simp only [Array.append_assoc] at hA'
    simp [invoke, callFunc, hfn, hne, hb, hnx, find_mnz hname, hA', Sem.run_bind, hrun, mark, Sem.run]
  rw [hrun2]
  exact hk _ _ _ hv hR' hm

end Go.AL
