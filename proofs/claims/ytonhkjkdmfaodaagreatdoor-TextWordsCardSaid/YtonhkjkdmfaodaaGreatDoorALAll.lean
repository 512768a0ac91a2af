/- The abstract machine is sound: what it shows of a call, the model does. -/
import Derived.Test.YtonhkjkdmfaodaaGreatDoorALDraw6
import Derived.Test.YtonhkjkdmfaodaaGreatDoorALExt2
set_option linter.unusedVariables false
set_option linter.unusedSimpArgs false
namespace Go.AL
open Go.RowKit

variable {P : Program} {G : Nat} {Giv : Nat → FuncId → Array Value → Heap → Nat → (Value → Heap → Nat → Prop) → Prop}

theorem noLoop {top : Bool} {lo N : Nat} {c : Code} {E : Env} {ds : List Nat} {H : Heap} {n : Nat} {Q : Post} (hc : ∀ b, c ≠ .loop b) (h : CodeSnd P G top lo N c E ds H n Q) :
    CodeSnd P G top lo N c E ds H n Q ∧ LoopSnd P G top lo N c E ds H n Q := ⟨h, fun b e => absurd e (hc b)⟩

theorem RCall.sound (hN : NoGor P) (hfol : P.follows .mixedOrders = true) (hG : ∀ lo f args H n K, Giv lo f args H n K → CallSnd P G lo f args H n K) {lo : Nat} {f : FuncId} {args : Array Value} {H : Heap} {n : Nat}
    {K : Value → Heap → Nat → Prop} (h : RCall P G Giv lo f args H n K) : CallSnd P G lo f args H n K := by
  refine RCall.rec (motive_1 := fun top lo N c E ds H n Q _ => CodeSnd P G top lo N c E ds H n Q ∧ LoopSnd P G top lo N c E ds H n Q)
    (motive_2 := fun lo N ops rest E H n K _ => OpsSnd P G lo N ops rest E H n K) (motive_3 := fun lo f args H n K _ => CallSnd P G lo f args H n K)
    ?_ ?_ ?_ ?_ ?_ ?_ ?_ ?_ ?_ ?_ ?_ ?_ ?_ ?_ ?_ ?_ ?_ ?_ ?_ ?_ ?_ ?_ ?_ h
  · intros; exact noLoop (by simp) (snd_skip ‹_›)
  · intros; exact noLoop (by simp) (snd_label ‹_›)
  · intros; exact noLoop (by simp) (snd_exit ‹_›)
  · intros; exact noLoop (by simp) (snd_ret ‹_›)
  · intro top lo N a b E ds H n Q Q1 _ _ h2 ih ih1
    exact noLoop (by simp) (snd_seq Q1 ih.1 (fun _ _ _ _ h => (ih1 _ _ _ _ h).1) h2)
  · intro top lo N c a b E ds H n Q hc _ ih
    exact noLoop (by simp) (snd_thn hc ih.1)
  · intro top lo N c a b E ds H n Q hc _ ih
    exact noLoop (by simp) (snd_els hc ih.1)
  · intro top lo N id b E ds H n Q Q1 _ h1 h2 h3 h4 ih
    exact noLoop (by simp) (snd_block Q1 ih.1 h1 h2 h3 h4)
  · intro top lo N b E ds H n Q Q1 _ _ h2 ih ih1
    have := snd_loop Q1 ih.1 (fun _ _ _ _ h => (ih1 _ _ _ _ h).2) h2
    exact ⟨this.code, this⟩
  · intro top lo N b E ds H n Q _ ih
    exact noLoop (by simp) (snd_scope ih.1)
  · intro top lo N id ops E ds H n Q _ ih
    exact noLoop (by simp) (snd_region ih)
  · intro top lo N id ops E ds H n Q d hd _ h ih
    exact noLoop (by simp) (snd_regionD hN hfol hd ih h)
  · intro lo N f ps asg body E ds H n Q g a b fn c K hf hlo hfn hb _ h1 ih
    exact noLoop (by simp) (snd_rangeFunc hN hfn hb K hf hlo ih h1)
  · intros; exact ops_nil ‹_›
  · intro lo N ops o rest E H n K hw _ ih
    exact ops_unwanted hw ih
  · intro lo N ops o rest E H n K v H' n' hw ho _ ih
    exact ops_op hw ho ih
  · intro lo N ops o rest E H n K x K1 hw ho hn _ ih
    exact ops_nextM K1 hw ho hn ih
  · intro lo N ops o rest E H n K f args tys g a b fn c K1 hw ho hf hfn hb _ _ ihc ih
    exact ops_call hN K1 hw ho hf hfn hb ihc ih
  · intro lo N ops o rest E H n K f args tys g a b fn v H' n' hw ho hf hfn hb hx he _ ih
    exact ops_ext hN hw ho hf hfn hb hx he ih
  · intro lo N ops o rest E H n K f args tys l El ps asg body pend QA QB K1 hw ho hf hlo hl hsz hok hok2 _ ha1 _ hb1 _ iha ihb ih
    exact ops_yield QA QB K1 hw ho hf hlo hl hsz hok hok2 iha.1 ha1 (fun _ _ _ _ h => (ihb _ _ _ _ h).1) hb1 ih
  · intro lo N ops o rest E H n K f args tys g a b fn v H' n' hw ho hf hfn hb hx he _ ih
    exact ops_mnz hN hw ho hf hfn hb hx he ih
  · intro lo f args H n K fn c Q hfn hb hok hsz _ h1 ih
    exact call_mk Q hfn hb hok hsz ih.1 h1
  · intro lo f args H n K h
    exact hG _ _ _ _ _ _ h

end Go.AL
