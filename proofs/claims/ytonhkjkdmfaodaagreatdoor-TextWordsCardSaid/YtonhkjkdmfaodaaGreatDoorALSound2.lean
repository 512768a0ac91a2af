/- The rules of ALRun are the model's: operations and calls. -/
import Derived.Test.YtonhkjkdmfaodaaGreatDoorALSound
import Derived.KernelRfl
set_option linter.unusedVariables false
set_option linter.unusedSimpArgs false
namespace Go.AL
open Go.RowKit

variable {P : Program} {G lo N : Nat} {σ : Nat → Loc} {H H' : Heap} {n n' : Nat} {w : World}

theorem operOk_dst {o : Oper} (h : operOk G N o = true) : ∀ k, o.dst = some k → k < N := by
  intro k hk
  simp only [operOk, Bool.and_eq_true, hk] at h
  simpa using h.2
theorem operOk_ops {o : Oper} (h : operOk G N o = true) {x : Operand} (hx : x ∈ o.op.operands) : opndOk G x = true := by
  simp only [operOk, Bool.and_eq_true, List.all_eq_true] at h
  exact h.1 x (by simpa using hx)

theorem about_none {o : Oper} (h : ∀ c, o.op ≠ .call c) (w : World) (ρ : Operand → Value) : o.about P w ρ = none := by
  unfold Oper.about
  split
  · rename_i c hc; exact absurd hc (h c)
  · rfl

section ops
variable {ops : Array Oper} {rest : List Oper} {o : Oper} {E : Env} {K : Env → Heap → Nat → Prop}

theorem ops_nil (h : K E H n) : OpsSnd P G lo N ops [] E H n K := by
  intro _ top F nn σ w a Q hF hR ht hk
  exact wpListIn_nil (hk _ _ _ _ _ _ h hR ht rfl (Moves.refl hR))

theorem put_defers (a : Act) (d : Option Tmp) (v : Value) : (a.put d v).defers = a.defers := by cases d <;> rfl

theorem ops_unwanted (hw : wantedE ops E o = false) (h : OpsSnd P G lo N ops rest (E.put o.dst undef) H n K) : OpsSnd P G lo N ops (o :: rest) E H n K := by
  intro hok top F nn σ w a Q hF hR ht hk
  simp only [List.all_cons, Bool.and_eq_true] at hok
  simp only [wpListIn, wanted_rel ht, hw, Bool.false_eq_true, if_false]
  refine ⟨fun f _ => hF.fn f, h hok.2 top F nn σ w (a.put o.dst undef) Q hF hR (ht.put (operOk_dst hok.1) .undef rfl) ?_⟩
  intro E' H' n' σ' a' w' hK hR' ht' hd hm
  exact hk _ _ _ _ _ _ hK hR' ht' (by rw [hd, put_defers]) hm

/-- Behind one operation. -/
theorem ops_next (hok : operOk G N o = true) {top : Bool} {F : Fence} {nn : Nat} {a : Act} {Q : Exit → Act → World → Prop} (hF : Fen top F) (hok2 : rest.all (operOk G N) = true)
    (ht : TRel σ n N E a.tmps) {v v' : Value} {σ1 : Nat → Loc} {H1 : Heap} {n1 : Nat} {w1 : World} (hR1 : Rel G σ1 H1 n1 w1) (hv : VR σ1 n1 v v') (hm1 : Moves lo σ H n w σ1 H1 n1 w1)
    (h : OpsSnd P G lo N ops rest (E.put o.dst v) H1 n1 K)
    (hk : ∀ E' H' n' σ' a' w', K E' H' n' → Rel G σ' H' n' w' → TRel σ' n' N E' a'.tmps → a'.defers = a.defers → Moves lo σ H n w σ' H' n' w' → Q .normal a' w') :
    wpListIn F nn P ops Q rest (a.put o.dst v') w1 := by
  refine h hok2 top F nn σ1 w1 (a.put o.dst v') Q hF hR1 ((ht.mono hm1.same hm1.le).put (operOk_dst hok) hv rfl) ?_
  intro E' H' n' σ' a' w' hK hR' ht' hd hm
  exact hk _ _ _ _ _ _ hK hR' ht' (by rw [hd, put_defers]) (hm1.trans hm)

theorem ops_op {v : Value} (hw : wantedE ops E o = true) (ho : aOp P lo o (ev E) H n = some (v, H', n')) (h : OpsSnd P G lo N ops rest (E.put o.dst v) H' n' K) : OpsSnd P G lo N ops (o :: rest) E H n K := by
  intro hok top F nn σ w a Q hF hR ht hk
  simp only [List.all_cons, Bool.and_eq_true] at hok
  simp only [wpListIn, wanted_rel ht, hw, if_true, Oper.wpIn]
  refine ⟨fun f _ => hF.fn f, ?_⟩
  have hnd : ∀ c, o.op ≠ .defer c := by
    intro c e
    unfold aOp at ho
    rw [e] at ho
    cases ho
  rw [Oper.semAt_eq _ _ _ hnd]
  obtain ⟨nx, w', σ', h1, h2, h3, h4⟩ := aOp_snd hR (E := ev E) (ρ := a.eval) (fun x hx => ev_rel hR ht (operOk_ops hok.1 hx)) ho
  rw [h1]
  rcases h2 with ⟨v', rfl, hv⟩ | ⟨rfl, rfl⟩
  · exact ops_next hok.1 hF hok.2 ht h3 hv h4 h hk
  · exact ops_next hok.1 hF hok.2 ht h3 .undef h4 h hk

theorem ops_nextM {x : Operand} (K1 : Value → Heap → Nat → Prop) (hw : wantedE ops E o = true) (ho : o.op = .next x false) (hn : aNextM lo (ev E x) H n K1)
    (h : ∀ v H' n', K1 v H' n' → OpsSnd P G lo N ops rest (E.put o.dst v) H' n' K) : OpsSnd P G lo N ops (o :: rest) E H n K := by
  intro hok top F nn σ w a Q hF hR ht hk
  simp only [List.all_cons, Bool.and_eq_true] at hok
  simp only [wpListIn, wanted_rel ht, hw, if_true, Oper.wpIn]
  refine ⟨fun f _ => hF.fn f, ?_⟩
  rw [Oper.semAt_eq _ _ _ (by rw [ho]; simp)]
  have hx := ev_rel hR ht (operOk_ops hok.1 (x := x) (by rw [ho]; simp [Op.operands]))
  obtain ⟨v, H1, n1, hK1, v', w', σ', h1, hv, h3, h4⟩ := nextM_snd (P := P) (ty := o.type) hR hx hn
  have hrun : (execOp a.eval o).run P w = .ok (.value v') w' := by
    obtain ⟨dst, op, type, pos, after, guard⟩ := o
    simp only at ho
    subst ho
    simp only [execOp, Sem.run_bind, h1, Result.andThen_ok, Sem.run_pure]
  rw [hrun]
  exact ops_next hok.1 hF hok.2 ht h3 hv h4 (h _ _ _ hK1) hk

theorem ArrR.append {a a' b b' : Array Value} (h : ArrR σ n a a') (k : ArrR σ n b b') : ArrR σ n (a ++ b) (a' ++ b') := by
  refine ⟨by simp [h.size, k.size], fun i x y hx hy => ?_⟩
  rw [Array.getElem?_append] at hx hy
  rw [h.size] at hx
  split at hx
  · rename_i hi; rw [if_pos hi] at hy; exact h.val i x y hx hy
  · rename_i hi; rw [if_neg hi] at hy; exact k.val _ x y hx hy
theorem ArrR.map (hR : Rel G σ H n w) {a : Act} (ht : TRel σ n N E a.tmps) {args : Array Operand} (hok : ∀ x ∈ args, opndOk G x = true) : ArrR σ n (args.map (ev E)) (args.map a.eval) := by
  obtain ⟨h1, h2⟩ := arr_rel (σ := σ) (n := n) (E := ev E) (ρ := a.eval) (a := args) (fun x hx => ev_rel hR ht (hok x hx))
  exact ⟨h1, h2⟩

theorem resolve_run {ρ : Operand → Value} {f : Operand} {args : Array Operand} {tys : Array TypeId} {ty : TypeId} {fn : Fn} {a b : Array Value} (hf : ρ f = .func fn a b) (w : World) :
    (resolve ρ { callee := .value f, args := args, argTypes := tys } ty).run P w = .ok { target := .fn fn b, args := a ++ args.map ρ } w := by
  simp [resolve, hf, Deferred.ofValue]

theorem callExec {ρ : Operand → Value} {f : Operand} {args : Array Operand} {tys : Array TypeId} {fn : Fn} {a b : Array Value} (ho : o.op = .call { callee := .value f, args := args, argTypes := tys }) (hf : ρ f = .func fn a b) (w : World) :
    (execOp ρ o).run P w = (invoke (.fn fn b) (a ++ args.map ρ)).run P w := by
  obtain ⟨dst, op, type, pos, after, guard⟩ := o
  simp only at ho
  subst ho
  simp only [execOp, Sem.run_bind, resolve_run hf, Result.andThen_ok]

def NoGor (P : Program) : Prop := ∀ (g : FuncId) (fn : Func), P.funcs[g]? = some fn → (fn.name == "runtime.NumGoroutine") = false

theorem callFunc_body (hN : NoGor P) {g : FuncId} {fn : Func} {c : Code} (hfn : P.funcs[g]? = some fn) (hb : fn.body = some c) (args : Array Value) (w : World) : (callFunc g args).run P w = .ok (.enter g args) w := by
  have hne : ¬ fn.name = "runtime.NumGoroutine" := by simpa using hN g fn hfn
  simp [callFunc, hfn, hne, hb]

theorem func_rel (hR : Rel G σ H n w) {a : Act} (ht : TRel σ n N E a.tmps) {f : Operand} (hok : opndOk G f = true) {g : FuncId} {x y : Array Value} (hf : ev E f = .func (.func g) x y) :
    ∃ x' y', a.eval f = .func (.func g) x' y' ∧ ArrR σ n x x' ∧ ArrR σ n y y' := by
  have h := ev_rel hR ht hok
  rw [hf] at h
  obtain ⟨x', y', h1, h2, h3, h4, h5⟩ := h.fn_inv rfl
  exact ⟨x', y', h1, ⟨h2, h4⟩, ⟨h3, h5⟩⟩

theorem ops_call (hN : NoGor P) {f : Operand} {args : Array Operand} {tys : Array TypeId} {g : FuncId} {x y : Array Value} {fn : Func} {c : Code} (K1 : Value → Heap → Nat → Prop) (hw : wantedE ops E o = true)
    (ho : o.op = .call { callee := .value f, args := args, argTypes := tys }) (hf : ev E f = .func (.func g) x y) (hfn : P.funcs[g]? = some fn) (hb : fn.body = some c)
    (hc : CallSnd P G lo g (x ++ args.map (ev E) ++ y) H n K1) (h : ∀ v H' n', K1 v H' n' → OpsSnd P G lo N ops rest (E.put o.dst v) H' n' K) : OpsSnd P G lo N ops (o :: rest) E H n K := by
  intro hok top F nn σ w a Q hF hR ht hk
  simp only [List.all_cons, Bool.and_eq_true] at hok
  simp only [wpListIn, wanted_rel ht, hw, if_true, Oper.wpIn]
  refine ⟨fun f _ => hF.fn f, ?_⟩
  rw [Oper.semAt_eq _ _ _ (by rw [ho]; simp)]
  obtain ⟨x', y', h1, h2, h3⟩ := func_rel hR ht (operOk_ops hok.1 (x := f) (by rw [ho]; simp [Op.operands, Call.operands])) hf
  have ha := ArrR.map (args := args) hR ht (fun z hz => operOk_ops hok.1 (by rw [ho]; simp [Op.operands, Call.operands, hz]))
  rw [callExec ho h1]
  simp only [invoke, callFunc_body hN hfn hb]
  refine ⟨fun hd => (by rw [hF.depth] at hd; cases hd), hF.calls ?_⟩
  refine (hc σ w _ hR ((h2.append ha).append h3)).mono ?_
  rintro e w' ⟨v, v', H1, n1, σ1, rfl, hK1, hv, hR1, hm1⟩
  exact ops_next hok.1 hF hok.2 ht hR1 hv hm1 (h _ _ _ hK1) hk

theorem look1 : (Extern.allGenericRows.lookup "internal/abi.NoEscape").isNone = true := by kernel_rfl
theorem look2 : (Extern.allTypedRows.lookup "internal/abi.NoEscape").isNone = true := by kernel_rfl
theorem look3 : Extern.allRows.lookup "internal/abi.NoEscape" = some Extern.AbiNoEscape.same := by kernel_rfl
theorem ext_rows {fn : Func} (h : (fn.name == "internal/abi.NoEscape") = true) : ∃ e, Extern.find fn = some e ∧ ∀ x, e #[x] = Pure.pure x := by
  have hn : fn.name = "internal/abi.NoEscape" := by simpa using h
  have h1 : Extern.allGenericRows.lookup "internal/abi.NoEscape" = none := by simpa using look1
  have h2 : Extern.allTypedRows.lookup "internal/abi.NoEscape" = none := by simpa using look2
  refine ⟨Extern.AbiNoEscape.same, ?_, fun x => rfl⟩
  unfold Extern.find
  simp [hn, h1, h2, look3]

theorem ops_ext (hN : NoGor P) {f : Operand} {args : Array Operand} {tys : Array TypeId} {g : FuncId} {x y : Array Value} {fn : Func} {v : Value} (hw : wantedE ops E o = true)
    (ho : o.op = .call { callee := .value f, args := args, argTypes := tys }) (hf : ev E f = .func (.func g) x y) (hfn : P.funcs[g]? = some fn) (hb : fn.body = none) (hx : (Extern.findNext fn).isNone = true)
    (he : aExt P fn (x ++ args.map (ev E) ++ y) H n = some (v, H', n')) (h : OpsSnd P G lo N ops rest (E.put o.dst v) H' n' K) : OpsSnd P G lo N ops (o :: rest) E H n K := by
  intro hok top F nn σ w a Q hF hR ht hk
  simp only [List.all_cons, Bool.and_eq_true] at hok
  simp only [wpListIn, wanted_rel ht, hw, if_true, Oper.wpIn]
  refine ⟨fun f _ => hF.fn f, ?_⟩
  rw [Oper.semAt_eq _ _ _ (by rw [ho]; simp)]
  obtain ⟨x', y', h1, h2, h3⟩ := func_rel hR ht (operOk_ops hok.1 (x := f) (by rw [ho]; simp [Op.operands, Call.operands])) hf
  have ha := ArrR.map (args := args) hR ht (fun z hz => operOk_ops hok.1 (by rw [ho]; simp [Op.operands, Call.operands, hz]))
  have hall := (h2.append ha).append h3
  rw [callExec ho h1]
  obtain ⟨e, v', hfe, hrun, hv, rfl, rfl⟩ : ∃ e v', Extern.find fn = some e ∧ (∀ w, (e (x' ++ args.map a.eval ++ y')).run P w = .ok v' w) ∧ VR σ n v v' ∧ H' = H ∧ n' = n := by
    generalize hA : x ++ args.map (ev E) ++ y = A at he hall
    generalize hA' : x' ++ args.map a.eval ++ y' = A' at hall ⊢
    unfold aExt at he
    split at he
    · rename_i hne
      split at he
      case h_2 => cases he
      rename_i z hz
      cases he
      obtain ⟨e, he1, he2⟩ := ext_rows hne
      have e1 : A = #[v] := by rw [← Array.toList_inj]; exact hz
      subst e1
      have hs := hall.size
      obtain ⟨v', rfl⟩ : ∃ v', A' = #[v'] := by
        obtain ⟨l⟩ := A'
        match l, hs with
        | [z], _ => exact ⟨z, rfl⟩
      exact ⟨e, v', he1, fun w => by rw [he2]; rfl, hall.val 0 _ _ rfl rfl, rfl, rfl⟩
    · split at he
      case h_2 => cases he
      rename_i e hfe
      split at he
      case isFalse => cases he
      rename_i hr
      split at he
      case h_2 => cases he
      rename_i u hu
      split at he
      case isFalse => cases he
      rename_i hru
      cases he
      have : A = A' := arr_eq_of hall.size hr hall.val (fun _ _ => rigid_eq)
      subst this
      exact ⟨e, v, hfe, fun w => run_of_pv hu w, .rig hru, rfl, rfl⟩
  have hnx : Extern.findNext fn = none := by simpa using hx
  have hrun2 : (invoke (.fn (.func g) y') (x' ++ args.map a.eval)).run P w = .ok (.value v') w := by
    have hne : ¬ fn.name = "runtime.NumGoroutine" := by simpa using hN g fn hfn
    have hrun' := hrun w
    simp only [Array.append_assoc] at hrun'
    simp [invoke, callFunc, hfn, hne, hb, hnx, hfe, hrun', mark, Sem.run]
  rw [hrun2]
  exact ops_next hok.1 hF hok.2 ht hR hv (Moves.refl hR) h hk
end ops

end Go.AL
