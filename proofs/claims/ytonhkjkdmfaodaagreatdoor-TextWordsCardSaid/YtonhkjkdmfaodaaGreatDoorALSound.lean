/- The rules of ALRun are the model's: code. -/
import Derived.Test.YtonhkjkdmfaodaaGreatDoorALRun
set_option linter.unusedVariables false
set_option linter.unusedSimpArgs false
namespace Go.AL
open Go.RowKit

variable {P : Program} {G lo N : Nat} {σ : Nat → Loc} {H H' : Heap} {n n' : Nat} {w : World}

/-- Temporaries. -/
structure TRel (σ : Nat → Loc) (n N : Nat) (E : Env) (tmps : Array Value) : Prop where
  size : tmps.size = N
  val : ∀ k, VR σ n (E k) (tmps.getD k undef)
def dfrOf (σ : Nat → Loc) (ds : List Nat) : List Deferred := ds.map fun i => { target := .collected (σ i).blk, args := #[] }
structure ARel (σ : Nat → Loc) (n N : Nat) (E : Env) (ds : List Nat) (a : Act) : Prop where
  tmps : TRel σ n N E a.tmps
  defers : a.defers = dfrOf σ ds
  inn : ∀ i ∈ ds, In σ n i
structure ArrR (σ : Nat → Loc) (n : Nat) (a a' : Array Value) : Prop where
  size : a.size = a'.size
  val : ∀ (k : Nat) (x y : Value), a[k]? = some x → a'[k]? = some y → VR σ n x y

theorem VR.undef : VR σ n undef undef := .rig rfl

theorem TRel.mono {σ' : Nat → Loc} {E : Env} {t : Array Value} (hs : ∀ i, i < n → σ' i = σ i) (hn : n ≤ n') (h : TRel σ n N E t) : TRel σ' n' N E t := ⟨h.size, fun k => (h.val k).mono hs hn⟩
theorem ARel.mono {σ' : Nat → Loc} {E : Env} {ds : List Nat} {a : Act} (hs : ∀ i, i < n → σ' i = σ i) (hn : n ≤ n') (h : ARel σ n N E ds a) : ARel σ' n' N E ds a := by
  refine ⟨h.tmps.mono hs hn, ?_, fun i hi => (h.inn i hi).mono (fun j hj => hs j hj.1) hn⟩
  rw [h.defers]
  unfold dfrOf
  refine List.map_congr_left fun i hi => ?_
  rw [hs i (h.inn i hi).1]
theorem TRel.put {E : Env} {t : Array Value} {d : Option Tmp} {v v' : Value} (h : TRel σ n N E t) (hd : ∀ k, d = some k → k < N) (hv : VR σ n v v') {a : Act} (ha : a.tmps = t) : TRel σ n N (E.put d v) (a.put d v').tmps := by
  subst ha
  cases d with
  | none => exact h
  | some d =>
    have hd := hd d rfl
    refine ⟨by simp [Act.put]; exact h.size, fun k => ?_⟩
    have hsz := h.size
    by_cases hk : k = d
    · subst hk
      have : k < a.tmps.size := by rw [hsz]; exact hd
      simp [Env.put, Act.put, Array.getD, this, hv]
    · have := h.val k
      simp only [Env.put, Act.put, hk, if_false]
      have e : (a.tmps.setIfInBounds d v').getD k undef = a.tmps.getD k undef := by
        rw [Array.getD_eq_getD_getElem?, Array.getD_eq_getD_getElem?, Array.getElem?_setIfInBounds, if_neg (fun e => hk e.symm)]
      rw [e]; exact this

theorem ev_rel (hR : Rel G σ H n w) {E : Env} {a : Act} (h : TRel σ n N E a.tmps) {x : Operand} (hx : opndOk G x = true) : VR σ n (ev E x) (a.eval x) := by
  cases x with
  | tmp t => exact h.val t
  | const v => exact .rig hx
  | global g =>
    have hg : g < G := by simpa [opndOk] using hx
    obtain ⟨h1, h2, h3⟩ := hR.glob g hg
    have := VR.ptr (o := 0) h1
    rw [h2, h3] at this
    exact this
  | func f => exact .rig (by simp [ev, rigid, sc2, sc1, sc0, notYield])

theorem VR.of_bool {v : Value} {b : Bool} (h : VR σ n v (.bool b)) : v = .bool b := by cases h; rfl

theorem yielded_rel {ops : Array Oper} {E : Env} {t : Array Value} (h : TRel σ n N E t) (j : Nat) : yielded ops t j = yieldedE ops E j := by
  unfold yielded yieldedE
  cases hd : (ops[j]?).bind (·.dst) with
  | none => rfl
  | some d =>
    have hv := h.val d
    simp only [Option.bind_some]
    rw [Array.getD_eq_getD_getElem?] at hv
    cases ht : t[d]? with
    | none =>
      rw [ht] at hv
      simp only [Option.getD_none] at hv
      cases he : E d with
      | bool b => rw [he] at hv; have := hv.bool_inv; cases this
      | _ => rfl
    | some y =>
      rw [ht] at hv
      simp only [Option.getD_some] at hv
      cases y with
      | bool b => rw [hv.of_bool]
      | _ => cases he : E d with
        | bool b => rw [he] at hv; have := hv.bool_inv; cases this
        | _ => rfl

theorem wanted_rel {ops : Array Oper} {E : Env} {t : Array Value} (h : TRel σ n N E t) (o : Oper) : Region.wanted o (yielded ops t) = wantedE ops E o := by
  unfold wantedE
  congr 1
  funext j
  exact yielded_rel h j

def exitOf : XX → Exit
  | .normal => .normal
  | .exit id => .exit id
  | .ret => .ret

def postOf (G lo N : Nat) (σ : Nat → Loc) (H : Heap) (n : Nat) (w : World) (Q : Post) : Exit → Act → World → Prop := fun e a' w' =>
  ∃ x E' ds' H' n' σ', e = exitOf x ∧ Q x E' ds' H' n' ∧ Rel G σ' H' n' w' ∧ ARel σ' n' N E' ds' a' ∧ Moves lo σ H n w σ' H' n' w'

def Fen (top : Bool) (F : Fence) : Prop := F = Fence.wide ∨ (top = false ∧ ∃ l, F = Fence.wide.inRound l)
theorem Fen.fn {top : Bool} {F : Fence} (h : Fen top F) (f : FuncId) : F.fn f := by
  rcases h with rfl | ⟨_, l, rfl⟩ <;> exact trivial
theorem Fen.depth {top : Bool} {F : Fence} (h : Fen top F) : F.depth = none := by
  rcases h with rfl | ⟨_, l, rfl⟩ <;> rfl
theorem Fen.calls {top : Bool} {F : Fence} (h : Fen top F) {k : Nat} {f : FuncId} {args : Array Value} {R : Ending → World → Prop} (hc : Calls P f args w R) : CallsIn F k P f args w R := by
  rcases h with rfl | ⟨_, l, rfl⟩
  · exact callsIn_wide.2 hc
  · exact CallsIn.inRound l (callsIn_wide.2 hc)

def CodeSnd (P : Program) (G : Nat) (top : Bool) (lo N : Nat) (c : Code) (E : Env) (ds : List Nat) (H : Heap) (n : Nat) (Q : Post) : Prop :=
  codeOk G N c = true → ∀ F nn σ w a, Fen top F → Rel G σ H n w → ARel σ n N E ds a → c.wpIn F nn P (postOf G lo N σ H n w Q) a w

def OpsSnd (P : Program) (G lo N : Nat) (ops : Array Oper) (rest : List Oper) (E : Env) (H : Heap) (n : Nat) (K : Env → Heap → Nat → Prop) : Prop :=
  rest.all (operOk G N) = true → ∀ top F nn σ w a (Q : Exit → Act → World → Prop), Fen top F → Rel G σ H n w → TRel σ n N E a.tmps →
    (∀ E' H' n' σ' a' w', K E' H' n' → Rel G σ' H' n' w' → TRel σ' n' N E' a'.tmps → a'.defers = a.defers → Moves lo σ H n w σ' H' n' w' → Q .normal a' w') → wpListIn F nn P ops Q rest a w

def callPost (G lo : Nat) (σ : Nat → Loc) (H : Heap) (n : Nat) (w : World) (K : Value → Heap → Nat → Prop) : Ending → World → Prop := fun e w' =>
  ∃ v v' H' n' σ', e = .returned v' ∧ K v H' n' ∧ VR σ' n' v v' ∧ Rel G σ' H' n' w' ∧ Moves lo σ H n w σ' H' n' w'
def CallSnd (P : Program) (G lo : Nat) (f : FuncId) (args : Array Value) (H : Heap) (n : Nat) (K : Value → Heap → Nat → Prop) : Prop :=
  ∀ σ w args', Rel G σ H n w → ArrR σ n args args' → Calls P f args' w (callPost G lo σ H n w K)

theorem postOf_trans {Q Q1 : Post} {σ1 : Nat → Loc} {H1 : Heap} {n1 : Nat} {w1 : World} (m : Moves lo σ H n w σ1 H1 n1 w1) {e : Exit} {a' : Act} {w' : World}
    (hq : ∀ x E' ds' H' n', exitOf x = e → Q1 x E' ds' H' n' → Q x E' ds' H' n') (h : postOf G lo N σ1 H1 n1 w1 Q1 e a' w') : postOf G lo N σ H n w Q e a' w' := by
  obtain ⟨x, E', ds', H', n', σ', h1, h2, h3, h4, h5⟩ := h
  exact ⟨x, E', ds', H', n', σ', h1, hq _ _ _ _ _ h1.symm h2, h3, h4, m.trans h5⟩

theorem exitOf_normal {x : XX} (h : exitOf x = .normal) : x = .normal := by cases x <;> simp_all [exitOf]
theorem exitOf_exit {x : XX} {id : Nat} (h : exitOf x = .exit id) : x = .exit id := by cases x <;> simp_all [exitOf]

theorem here {Q : Post} {x : XX} {E : Env} {ds : List Nat} {a : Act} (hR : Rel G σ H n w) (ha : ARel σ n N E ds a) (h : Q x E ds H n) : postOf G lo N σ H n w Q (exitOf x) a w :=
  ⟨x, E, ds, H, n, σ, rfl, h, hR, ha, Moves.refl hR⟩

section code
variable {top : Bool} {E : Env} {ds : List Nat} {Q : Post}

theorem snd_skip (h : Q .normal E ds H n) : CodeSnd P G top lo N .skip E ds H n Q := fun _ F nn σ w a hF hR ha => wpIn_skip (here (x := .normal) hR ha h)
theorem snd_label {l : Nat} (h : Q .normal E ds H n) : CodeSnd P G top lo N (.label l) E ds H n Q := fun _ F nn σ w a hF hR ha => wpIn_label (here (x := .normal) hR ha h)
theorem snd_exit {id : Nat} (h : Q (.exit id) E ds H n) : CodeSnd P G top lo N (.exit id) E ds H n Q := fun _ F nn σ w a hF hR ha => wpIn_exit (here (x := .exit id) hR ha h)
theorem snd_ret (h : Q .ret E ds H n) : CodeSnd P G top lo N .ret E ds H n Q := fun _ F nn σ w a hF hR ha => wpIn_ret (here (x := .ret) hR ha h)

theorem snd_seq {a b : Code} (Q1 : Post) (h : CodeSnd P G top lo N a E ds H n Q1) (h1 : ∀ E' ds' H' n', Q1 .normal E' ds' H' n' → CodeSnd P G top lo N b E' ds' H' n' Q)
    (h2 : ∀ x E' ds' H' n', x ≠ .normal → Q1 x E' ds' H' n' → Q x E' ds' H' n') : CodeSnd P G top lo N (.seq a b) E ds H n Q := by
  intro hok F nn σ w act hF hR ha
  simp only [codeOk, Bool.and_eq_true] at hok
  refine wpIn_seq (wpIn_mono (h hok.1 F nn σ w act hF hR ha) ?_)
  intro e a' w' hp
  obtain ⟨x, E', ds', H', n', σ', rfl, hq, hR', ha', hm⟩ := hp
  cases x with
  | normal => exact wpIn_mono (h1 _ _ _ _ hq hok.2 F nn σ' w' a' hF hR' ha') (fun e a2 w2 hp2 => postOf_trans hm (fun _ _ _ _ _ _ h => h) hp2)
  | exit id => exact ⟨.exit id, E', ds', H', n', σ', rfl, h2 _ _ _ _ _ (by simp) hq, hR', ha', hm⟩
  | ret => exact ⟨.ret, E', ds', H', n', σ', rfl, h2 _ _ _ _ _ (by simp) hq, hR', ha', hm⟩

theorem snd_thn {c : Operand} {a b : Code} (hc : ev E c = .bool true) (h : CodeSnd P G top lo N a E ds H n Q) : CodeSnd P G top lo N (.cond c a b) E ds H n Q := by
  intro hok F nn σ w act hF hR ha
  simp only [codeOk, Bool.and_eq_true] at hok
  have := ev_rel hR ha.tmps hok.1.1
  rw [hc] at this
  exact wpIn_cond_true this.bool_inv (h hok.1.2 F nn σ w act hF hR ha)
theorem snd_els {c : Operand} {a b : Code} (hc : ev E c = .bool false) (h : CodeSnd P G top lo N b E ds H n Q) : CodeSnd P G top lo N (.cond c a b) E ds H n Q := by
  intro hok F nn σ w act hF hR ha
  simp only [codeOk, Bool.and_eq_true] at hok
  have := ev_rel hR ha.tmps hok.1.1
  rw [hc] at this
  exact wpIn_cond_false this.bool_inv (h hok.2 F nn σ w act hF hR ha)

theorem snd_scope {b : Code} (h : CodeSnd P G top lo N b E ds H n Q) : CodeSnd P G top lo N (.scope b) E ds H n Q := by
  intro hok F nn σ w act hF hR ha
  simp only [codeOk] at hok
  refine wpIn_scope (wpIn_mono (h hok F nn σ w act hF hR ha) ?_)
  intro e a' w' hp
  obtain ⟨x, E', ds', H', n', σ', rfl, hq, hR', ha', hm⟩ := hp
  cases x with
  | normal => exact ⟨.normal, E', ds', H', n', σ', rfl, hq, hR', ha', hm⟩
  | exit id => exact ⟨.exit id, E', ds', H', n', σ', rfl, hq, hR', ha', hm⟩
  | ret => exact ⟨.ret, E', ds', H', n', σ', rfl, hq, hR', ha', hm⟩

theorem snd_block {id : Nat} {b : Code} (Q1 : Post) (h : CodeSnd P G top lo N b E ds H n Q1) (h1 : ∀ E' ds' H' n', Q1 .normal E' ds' H' n' → Q .normal E' ds' H' n')
    (h2 : ∀ E' ds' H' n', Q1 (.exit id) E' ds' H' n' → Q .normal E' ds' H' n') (h3 : ∀ j E' ds' H' n', j ≠ id → Q1 (.exit j) E' ds' H' n' → Q (.exit j) E' ds' H' n')
    (h4 : ∀ E' ds' H' n', Q1 .ret E' ds' H' n' → Q .ret E' ds' H' n') : CodeSnd P G top lo N (.block id b) E ds H n Q := by
  intro hok F nn σ w act hF hR ha
  simp only [codeOk] at hok
  refine wpIn_block (wpIn_mono (h hok F nn σ w act hF hR ha) ?_)
  intro e a' w' hp
  obtain ⟨x, E', ds', H', n', σ', rfl, hq, hR', ha', hm⟩ := hp
  cases x with
  | normal => exact ⟨.normal, E', ds', H', n', σ', rfl, h1 _ _ _ _ hq, hR', ha', hm⟩
  | exit j =>
    by_cases hj : j = id
    · subst hj
      simp only [exitOf, Exit.inBlock, if_true]
      exact ⟨.normal, E', ds', H', n', σ', rfl, h2 _ _ _ _ hq, hR', ha', hm⟩
    · simp only [exitOf, Exit.inBlock, hj, if_false]
      exact ⟨.exit j, E', ds', H', n', σ', rfl, h3 _ _ _ _ _ hj hq, hR', ha', hm⟩
  | ret => exact ⟨.ret, E', ds', H', n', σ', rfl, h4 _ _ _ _ hq, hR', ha', hm⟩

/-- At the beginning of a round. -/
def LoopAt (F : Fence) (k : Nat) (P : Program) (c : Code) (Q : Exit → Act → World → Prop) (a : Act) (w : World) : Prop :=
  ∀ (b : Frame) (kk : List Item) (cs : List Frame), b.roundOf = F.round → F.fn b.fn → F.room (cs.length + 1 + k) →
    ∃ e a' w', Q e a' w' ∧ ArrivesIn (Machine.fenced P F) P (lone (b.atR a (.code c :: .inLoop c :: kk)) cs w) b kk cs e a' w'
theorem LoopAt.wp {F : Fence} {k : Nat} {c : Code} {Q : Exit → Act → World → Prop} {a : Act} {w : World} (h : LoopAt F k P c Q a w) : (Code.loop c).wpIn F k P Q a w := by
  intro b kk cs hro hb hr
  obtain ⟨e, a', w', hq, harr⟩ := h b kk cs hro hb hr
  exact ⟨e, a', w', hq, .of_steps (.one (fenced_calm hb hr rfl) stepR_loop) harr⟩
theorem loopAt_next {F : Fence} {k : Nat} {c : Code} {Q : Exit → Act → World → Prop} {a : Act} {w : World} (h : c.wpIn F k P (Exit.then (LoopAt F k P c Q) Q) a w) : LoopAt F k P c Q a w := by
  intro b kk cs hro hb hr
  obtain ⟨e, a₁, w₁, hq, harr⟩ := h b (.inLoop c :: kk) cs hro hb hr
  cases e with
  | normal =>
    obtain ⟨e₂, a₂, w₂, hq₂, harr₂⟩ := hq b kk cs hro hb hr
    exact ⟨e₂, a₂, w₂, hq₂, .of_steps (StepsIn.trans harr (.one (fenced_calm hb hr rfl) stepR_inLoop)) harr₂⟩
  | exit id => exact ⟨_, a₁, w₁, hq, .pass (x := .inLoop c) rfl (fun _ _ => .inl (by simp)) harr⟩
  | goto l => exact ⟨_, a₁, w₁, hq, .pass (x := .inLoop c) rfl (fun _ _ => .inl (by simp)) harr⟩
  | ret => exact ⟨_, a₁, w₁, hq, .pass (x := .inLoop c) rfl (fun _ _ => .inl (by simp)) harr⟩
  | panic ch => exact ⟨_, a₁, w₁, hq, .pass (x := .inLoop c) rfl (fun _ _ => .inl (by simp)) harr⟩
  | outgrown => exact ⟨_, a₁, w₁, hq, .pass (x := .inLoop c) rfl (fun _ _ => .inl (by simp)) harr⟩

def LoopSnd (P : Program) (G : Nat) (top : Bool) (lo N : Nat) (c : Code) (E : Env) (ds : List Nat) (H : Heap) (n : Nat) (Q : Post) : Prop :=
  ∀ b, c = .loop b → codeOk G N b = true → ∀ F nn σ w a, Fen top F → Rel G σ H n w → ARel σ n N E ds a → LoopAt F nn P b (postOf G lo N σ H n w Q) a w

theorem LoopAt.mono {F : Fence} {k : Nat} {c : Code} {Q Q' : Exit → Act → World → Prop} {a : Act} {w : World} (h : LoopAt F k P c Q a w) (hq : ∀ e a w, Q e a w → Q' e a w) : LoopAt F k P c Q' a w :=
  fun b kk cs h1 h2 h3 => let ⟨e, a', w', q, r⟩ := h b kk cs h1 h2 h3; ⟨e, a', w', hq _ _ _ q, r⟩

theorem snd_loop {b : Code} (Q1 : Post) (h : CodeSnd P G top lo N b E ds H n Q1) (h1 : ∀ E' ds' H' n', Q1 .normal E' ds' H' n' → LoopSnd P G top lo N (.loop b) E' ds' H' n' Q)
    (h2 : ∀ x E' ds' H' n', x ≠ .normal → Q1 x E' ds' H' n' → Q x E' ds' H' n') : LoopSnd P G top lo N (.loop b) E ds H n Q := by
  intro b' hb' hok F nn σ w act hF hR ha
  cases hb'
  refine loopAt_next (wpIn_mono (h hok F nn σ w act hF hR ha) ?_)
  intro e a' w' hp
  obtain ⟨x, E', ds', H', n', σ', rfl, hq, hR', ha', hm⟩ := hp
  cases x with
  | normal => exact (h1 _ _ _ _ hq b rfl hok F nn σ' w' a' hF hR' ha').mono (fun e a2 w2 hp2 => postOf_trans hm (fun _ _ _ _ _ _ h => h) hp2)
  | exit id => exact ⟨.exit id, E', ds', H', n', σ', rfl, h2 _ _ _ _ _ (by simp) hq, hR', ha', hm⟩
  | ret => exact ⟨.ret, E', ds', H', n', σ', rfl, h2 _ _ _ _ _ (by simp) hq, hR', ha', hm⟩
theorem LoopSnd.code {b : Code} (h : LoopSnd P G top lo N (.loop b) E ds H n Q) : CodeSnd P G top lo N (.loop b) E ds H n Q :=
  fun hok F nn σ w a hF hR ha => (h b rfl (by simpa [codeOk] using hok) F nn σ w a hF hR ha).wp

theorem snd_region {id : Nat} {ops : Array Oper} (h : OpsSnd P G lo N ops ops.toList E H n (fun E' H' n' => Q .normal E' ds H' n')) : CodeSnd P G top lo N (.region id ops false) E ds H n Q := by
  intro hok F nn σ w a hF hR ha
  simp only [codeOk] at hok
  refine wpIn_region_list (h hok top F nn σ w a _ hF hR ha.tmps ?_)
  intro E' H' n' σ' a' w' hq hR' ht hd hm
  refine ⟨.normal, E', ds, H', n', σ', rfl, hq, hR', ⟨ht, ?_, ?_⟩, hm⟩
  · rw [hd]; exact (ha.mono hm.same hm.le).defers
  · exact (ha.mono hm.same hm.le).inn
end code

end Go.AL
