/- A call of bytealg.MakeNoZero. -/
import Derived.Test.YtonhkjkdmfaodaaGreatDoorALExt
import Derived.Test.YtonhkjkdmfaodaaGreatDoorALSound2
set_option linter.unusedVariables false
set_option linter.unusedSimpArgs false
namespace Go.AL
open Go.RowKit

section ops
variable {P : Program} {G lo N : Nat} {σ : Nat → Loc} {H H' : Heap} {n n' : Nat} {w : World}
variable {ops : Array Oper} {o : Oper} {rest : List Oper} {E : Env} {K : Env → Heap → Nat → Prop}

theorem lookm1 : (Extern.allGenericRows.lookup "internal/bytealg.MakeNoZero").isNone = true := by kernel_rfl
theorem lookm2 : Extern.allTypedRows.lookup "internal/bytealg.MakeNoZero" = some Extern.BytealgMakeNoZero.makeNoZero := by kernel_rfl
theorem find_mnz {fn : Func} (h : (fn.name == "internal/bytealg.MakeNoZero") = true) : Extern.find fn = some (Extern.BytealgMakeNoZero.makeNoZero fn.params fn.resultTypes) := by
  have hn : fn.name = "internal/bytealg.MakeNoZero" := by simpa using h
  have h1 : Extern.allGenericRows.lookup "internal/bytealg.MakeNoZero" = none := by simpa using lookm1
  unfold Extern.find
  simp [hn, h1, lookm2]

theorem ops_mnz (hN : NoGor P) {f : Operand} {args : Array Operand} {tys : Array TypeId} {g : FuncId} {x y : Array Value} {fn : Func} {v : Value} (hw : wantedE ops E o = true)
    (ho : o.op = .call { callee := .value f, args := args, argTypes := tys }) (hf : ev E f = .func (.func g) x y) (hfn : P.funcs[g]? = some fn) (hb : fn.body = none) (hx : (Extern.findNext fn).isNone = true)
    (he : aMnz P fn (x ++ args.map (ev E) ++ y) H n = some (v, H', n')) (h : OpsSnd P G lo N ops rest (E.put o.dst v) H' n' K) : OpsSnd P G lo N ops (o :: rest) E H n K := by
  intro hok top F nn σ w a Q hF hR ht hk
  simp only [List.all_cons, Bool.and_eq_true] at hok
  simp only [wpListIn, wanted_rel ht, hw, if_true, Oper.wpIn]
  refine ⟨fun f _ => hF.fn f, ?_⟩
  rw [Oper.semAt_eq _ _ _ (by rw [ho]; simp)]
  obtain ⟨x', y', h1, h2, h3⟩ := func_rel hR ht (operOk_ops hok.1 (x := f) (by rw [ho]; simp [Op.operands, Call.operands])) hf
  have ha := ArrR.map (args := args) hR ht (fun z hz => operOk_ops hok.1 (by rw [ho]; simp [Op.operands, Call.operands, hz]))
  have hall := (h2.append ha).append h3
  rw [callExec ho h1]
  generalize hA : x ++ args.map (ev E) ++ y = A at he hall
  generalize hA' : x' ++ args.map a.eval ++ y' = A' at hall
  unfold aMnz at he
  split at he
  case isFalse => cases he
  rename_i hname
  split at he
  case h_2 => cases he
  rename_i k t hk1 ht1
  split at he
  case h_2 => cases he
  rename_i e hu
  split at he
  case isFalse => cases he
  rename_i hkk
  cases he
  have e1 : A = #[.int .i64 k] := by rw [← Array.toList_inj]; exact hk1
  subst e1
  have hs := hall.size
  obtain ⟨v', rfl⟩ : ∃ v', A' = #[v'] := by
    obtain ⟨l⟩ := A'
    match l, hs with
    | [z], _ => exact ⟨z, rfl⟩
  have hv' : Value.int .i64 k = v' := rigid_eq rfl (hall.val 0 _ _ rfl rfl)
  subst hv'
  obtain ⟨u, w', σ', hrun, hv, hR', hm⟩ := makeNoZero_snd (P := P) (lo := lo) hR (ps := fn.params) ht1 hu hkk.1 hkk.2
  have hnx : Extern.findNext fn = none := by simpa using hx
  have hrun2 : (invoke (.fn (.func g) y') (x' ++ args.map a.eval)).run P w = .ok (.value u) w' := by
    have hne : ¬ fn.name = "runtime.NumGoroutine" := by simpa using hN g fn hfn
    simp only [Array.append_assoc] at hA'
    simp [invoke, callFunc, hfn, hne, hb, hnx, find_mnz hname, hA', Sem.run_bind, hrun, mark, Sem.run]
  rw [hrun2]
  exact ops_next hok.1 hF hok.2 ht hR' hv hm h hk
end ops

end Go.AL
