/- The rules of ALRun are the model's: a round of a range over a function. -/
import Derived.Test.YtonhkjkdmfaodaaGreatDoorALSound4
set_option linter.unusedVariables false
set_option linter.unusedSimpArgs false
namespace Go.AL
open Go.RowKit

variable {P : Program} {G lo N : Nat} {σ : Nat → Loc} {H H' : Heap} {n n' : Nat} {w : World}

theorem setAll_rel {ps : Array Tmp} {args args' El tmps : Array Value} (ha : ArrR σ n args args') (ht : ArrR σ n El tmps) :
    ArrR σ n (setAll ps args El) ((ps.zip args').foldl (fun t (p, v) => t.setIfInBounds p v) tmps) := by
  have main : ∀ (l : List (Tmp × Value)) (l' : List (Tmp × Value)) (A A' : Array Value), ArrR σ n A A' → l.length = l'.length → (∀ (k : Nat) (p q : Tmp × Value), l[k]? = some p → l'[k]? = some q → p.1 = q.1 ∧ VR σ n p.2 q.2) →
      ArrR σ n (l.foldl (fun t (p, v) => t.setIfInBounds p v) A) (l'.foldl (fun t (p, v) => t.setIfInBounds p v) A') := by
    intro l
    induction l with
    | nil => intro l' A A' h hl _; have : l' = [] := List.eq_nil_of_length_eq_zero (by simpa using hl.symm); subst this; exact h
    | cons p l ih =>
      intro l' A A' h hl hr
      cases l' with
      | nil => simp at hl
      | cons q l' =>
        simp only [List.foldl_cons]
        obtain ⟨h1, h2⟩ := hr 0 p q rfl rfl
        refine ih l' _ _ ⟨by simp [h.size], fun k x y hx hy => ?_⟩ (by simpa using hl) (fun k a b ha hb => hr (k + 1) a b (by simpa using ha) (by simpa using hb))
        rw [Array.getElem?_setIfInBounds] at hx hy
        rw [h1, h.size] at hx
        split at hx
        · rename_i he
          rw [if_pos he] at hy
          split at hx
          · rename_i hk
            rw [if_pos hk] at hy
            cases hx; cases hy; exact h2
          · cases hx
        · rename_i he
          rw [if_neg he] at hy
          exact h.val k x y hx hy
  unfold setAll
  rw [← Array.foldl_toList, ← Array.foldl_toList]
  refine main _ _ _ _ ht (by simp [ha.size]) (fun k p q hp hq => ?_)
  simp only [Array.toList_zip, List.getElem?_zip_eq_some, Array.getElem?_toList] at hp hq
  obtain ⟨h1, h2⟩ := hp
  obtain ⟨h3, h4⟩ := hq
  rw [h1] at h3
  exact ⟨Option.some.inj h3, ha.val k _ _ h2 h4⟩

theorem ofArr_rel {A A' : Array Value} (h : ArrR σ n A A') : TRel σ n A.size (ofArgs A) A' := by
  refine ⟨h.size.symm, fun j => ?_⟩
  unfold ofArgs
  rw [Array.getD_eq_getD_getElem?, Array.getD_eq_getD_getElem?]
  by_cases hj : j < A'.size
  · have hj' : j < A.size := by rw [h.size]; exact hj
    rw [Array.getElem?_eq_getElem hj', Array.getElem?_eq_getElem hj]
    exact h.val j _ _ (Array.getElem?_eq_getElem hj') (Array.getElem?_eq_getElem hj)
  · rw [Array.getElem?_eq_none (by rw [h.size]; omega), Array.getElem?_eq_none (by omega)]
    exact .undef

theorem setAll_size (ps : Array Tmp) (args El : Array Value) : (setAll ps args El).size = El.size := by
  unfold setAll
  rw [← Array.foldl_toList]
  generalize (ps.zip args).toList = l
  induction l generalizing El with
  | nil => rfl
  | cons p l ih => simp only [List.foldl_cons]; rw [ih]; simp

/-- A loop's record is turned. -/
theorem record_turn (hR : Rel G σ H n w) {l : Nat} {El : Array Value} {ps : Array Tmp} {asg body : Code} {st st' : LoopState} {pend pend' : Option Code} (hlo : lo ≤ l) (hl : H.get l = some (.loop El ps asg body st pend))
    {r : Loop} (hh : w.heap[(σ l).blk]? = some (.loop r)) {w' : World} (hw' : w' = w.putObj (σ l).blk (.loop { r with state := st', pending := pend' })) :
    Rel G σ (H.upd l (some (.loop El ps asg body st' pend'))) n w' ∧ Moves lo σ H n w σ (H.upd l (some (.loop El ps asg body st' pend'))) n w' := by
  obtain ⟨hoff, r0, hh0, hs, hp, h1, h2, h3, h4, h5⟩ := hR.blk l _ hl
  rw [hh] at hh0
  cases hh0
  have hlt : (σ l).blk < w.heap.size := (Array.getElem?_eq_some_iff.1 hh).1
  have hk : ∀ k, k ≠ (σ l).blk → w'.heap[k]? = w.heap[k]? := fun k hk => by rw [hw']; exact World.putObj_heap_other hk
  have hz : w.heap.size ≤ w'.heap.size := by rw [hw']; simp [World.putObj]
  refine ⟨hR.write hl rfl rfl hz hk ⟨hoff, { r with state := st', pending := pend' }, by rw [hw']; exact World.putObj_heap_same hlt, rfl, rfl, h1, h2, h3, h4, h5⟩, ?_⟩
  exact Moves.write hR hlo hl rfl (fun c e => by cases e; rfl) (by rw [hw']; rfl) (by rw [hw']; rfl) (by rw [hw']; rfl) hz hk

theorem ops_yield {ops : Array Oper} {rest : List Oper} {o : Oper} {E : Env} {K : Env → Heap → Nat → Prop} {f : Operand} {args : Array Operand} {tys : Array TypeId} {l : Nat} {El : Array Value} {ps : Array Tmp} {asg body : Code} {pend : Option Code}
    (QA QB : Post) (K1 : Value → Heap → Nat → Prop) (hw : wantedE ops E o = true) (ho : o.op = .call { callee := .value f, args := args, argTypes := tys })
    (hf : ev E f = .func (.yield l) #[] #[]) (hlo : lo ≤ l) (hl : H.get l = some (.loop El ps asg body .ready pend)) (hsz : args.size = ps.size) (hok : codeOk G El.size asg = true) (hok2 : codeOk G El.size body = true)
    (ha : CodeSnd P G false lo El.size asg (ofArgs (setAll ps (args.map (ev E)) El)) [] H n QA)
    (ha1 : ∀ x E' ds' H' n', QA x E' ds' H' n' → x = .normal ∧ H'.get l = some (.loop El ps asg body .ready pend))
    (hb : ∀ E' ds' H' n', QA .normal E' ds' H' n' → CodeSnd P G false lo El.size body E' ds' (H'.upd l (some (.loop El ps asg body .busy pend))) n' QB)
    (hb1 : ∀ x E' ds' H' n', QB x E' ds' H' n' → H'.get l = some (.loop El ps asg body .busy pend) ∧
      K1 (.bool (jumpOf x).isNone) (H'.upd l (some (.loop El ps asg body (if (jumpOf x).isNone then .ready else .done) (jumpOf x)))) n')
    (h : ∀ v H' n', K1 v H' n' → OpsSnd P G lo N ops rest (E.put o.dst v) H' n' K) : OpsSnd P G lo N ops (o :: rest) E H n K := by
  intro hokk top F nn σ w a Q hF hR ht hk
  simp only [List.all_cons, Bool.and_eq_true] at hokk
  simp only [wpListIn, wanted_rel ht, hw, if_true, Oper.wpIn]
  refine ⟨fun f _ => hF.fn f, ?_⟩
  rw [Oper.semAt_eq _ _ _ (by rw [ho]; simp)]
  have hfr := ev_rel hR ht (operOk_ops hokk.1 (x := f) (by rw [ho]; simp [Op.operands, Call.operands]))
  rw [hf] at hfr
  obtain ⟨hln, hoff, _, _, hfe⟩ := hfr.yl_inv
  have haa := ArrR.map (args := args) hR ht (fun z hz => operOk_ops hokk.1 (by rw [ho]; simp [Op.operands, Call.operands, hz]))
  obtain ⟨_, r, hh, hst, hpd, hps, hasg, hbody, hes, hev⟩ := hR.blk l _ hl
  have hrun : (execOp a.eval o).run P w = .ok (.round (σ l).blk r.fn ((r.params.zip (args.map a.eval)).foldl (fun t (p, v) => t.setIfInBounds p v) r.tmps) r.assign r.body) w := by
    rw [callExec ho hfe]
    simp only [invoke, Array.empty_append]
    exact run_yield hh (by rw [hps]; simpa using hsz)
  rw [hrun]
  refine ⟨fun hd => (by rw [hF.depth] at hd; cases hd), roundIn_of_wpIn (hF.fn _) ?_⟩
  rw [hps, hasg, hbody]
  have hset := setAll_rel (ps := ps) haa (⟨hes, hev⟩ : ArrR σ n El r.tmps)
  have hF2 : Fen false (F.inRound (σ l).blk) := by
    refine .inr ⟨rfl, (σ l).blk, ?_⟩
    rcases hF with rfl | ⟨_, l0, rfl⟩ <;> rfl
  have hT := ofArr_rel hset
  rw [setAll_size] at hT
  refine wpIn_mono (ha hok (F.inRound (σ l).blk) _ σ w _ hF2 hR ⟨hT, rfl, by simp⟩) ?_
  rintro e a1 w1 ⟨x, E1, ds1, H1, n1, σ1, rfl, hQA, hR1, ha1', hm1⟩
  obtain ⟨rfl, hl1⟩ := ha1 _ _ _ _ _ hQA
  have e1 : σ1 l = σ l := hm1.same l hln.1
  obtain ⟨_, r1, hh1, hst1, hpd1, _, _, _, _, _⟩ := hR1.blk l _ hl1
  have hh1' : w1.heap[(σ l).blk]? = some (.loop r1) := by rw [← e1]; exact hh1
  refine ⟨_, run_beginRound hh1' hst1, ?_⟩
  obtain ⟨hR2, hm2⟩ := record_turn (st' := .busy) (pend' := pend) hR1 hlo hl1 hh1 (w' := w1.putObj (σ l).blk (.loop { r1 with state := .busy })) (by rw [e1, ← hpd1])
  refine wpIn_mono (hb _ _ _ _ hQA hok2 (F.inRound (σ l).blk) _ σ1 _ a1 hF2 hR2 ha1') ?_
  rintro e a2 w2 ⟨x, E2, ds2, H2, n2, σ2, rfl, hQB, hR3, ha2, hm3⟩
  obtain ⟨hl2, hK1⟩ := hb1 _ _ _ _ _ hQB
  have e2 : σ2 l = σ l := by rw [hm3.same l (Nat.lt_of_lt_of_le hln.1 hm1.le), e1]
  obtain ⟨_, r2, hh2, _, _, _, _, _, _, _⟩ := hR3.blk l _ hl2
  have hh2' : w2.heap[(σ l).blk]? = some (.loop r2) := by rw [← e2]; exact hh2
  have fin : ∀ jump, jump = jumpOf x → ∃ v w', (Instr.endRound (σ l).blk jump).run P w2 = .ok v w' ∧ wpListIn F nn P ops Q rest (a.put o.dst v) w' := by
    rintro jump rfl
    refine ⟨_, _, run_endRound (jumpOf x) hh2', ?_⟩
    obtain ⟨hR4, hm4⟩ := record_turn (st' := if (jumpOf x).isNone then .ready else .done) (pend' := jumpOf x) hR3 hlo hl2 hh2 (w' := w2.putObj (σ l).blk (.loop { r2 with state := if (jumpOf x).isNone then .ready else .done, pending := jumpOf x })) (by rw [e2])
    exact ops_next hokk.1 hF hokk.2 ht hR4 (.rig rfl) (((hm1.trans hm2).trans hm3).trans hm4) (h _ _ _ hK1) hk
  cases x with
  | normal => exact fin none rfl
  | exit id => exact fin (some (.exit id)) rfl
  | ret => exact fin (some .ret) rfl

end Go.AL
