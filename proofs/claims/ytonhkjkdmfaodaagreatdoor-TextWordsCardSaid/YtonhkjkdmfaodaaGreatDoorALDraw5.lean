/- A region that draws its order: in whatever order, it ends as in the order of the text. -/
import Derived.Test.YtonhkjkdmfaodaaGreatDoorALDraw4
set_option linter.unusedVariables false
set_option linter.unusedSimpArgs false
namespace Go.AL
open Go.RowKit

variable {P : Program} {G lo N : Nat} {ops : Array Oper} {d : Draw} {E : Env} {H : Heap} {n : Nat}
variable {σ0 : Nat → Loc} {w0 : World} {D0 : List Deferred} {L : Nat → Prop} {σ σ' : Nat → Loc} {a : Act} {w w' : World}

/-- The temporaries that an operation looks at are as in the order of the text. -/
theorem DInv.looks (hd : DrawOk P lo ops E H n d) (hI : DInv G lo N ops d σ0 w0 D0 L σ a w) {k : Nat} {o : Oper} (ho : ops[k]? = some o) (hL : ¬ L k) (hr : ∀ j, Anc ops j k → L j) {t : Nat} (ht : t ∈ o.looksAt ops) : VTmp ops L k t := by
  have hk : k < ops.size := (Array.getElem?_eq_some_iff.1 ho).1
  refine ⟨Nat.le_of_lt hk, fun j oj hj hdst => ?_⟩
  rcases Nat.lt_trichotomy j k with h | h | h
  · refine ⟨fun _ => h, fun _ => ?_⟩
    rcases hd.ord j k oj o h hj ho with hanc | ⟨hap, _⟩
    · exact hr j hanc
    · exact absurd ht ((Oper.apart_spec hap).1 t hdst)
  · subst h
    exact ⟨fun h => absurd h hL, fun h => absurd h (Nat.lt_irrefl _)⟩
  · refine ⟨fun hLj => ?_, fun h' => by omega⟩
    rcases hd.ord k j o oj h ho hj with hanc | ⟨hap, _⟩
    · exact absurd (hI.down k j hanc hLj) hL
    · exact absurd ht ((Oper.apart_spec hap).2.2 t hdst)

theorem DInv.operand (hd : DrawOk P lo ops E H n d) (hI : DInv G lo N ops d σ0 w0 D0 L σ a w) {k : Nat} {o : Oper} (ho : ops[k]? = some o) (hL : ¬ L k) (hr : ∀ j, Anc ops j k → L j) (hok : operOk G N o = true) :
    ∀ x ∈ o.op.operands, VR σ (d.n k) (ev (d.E k) x) (a.eval x) := by
  intro x hx
  have hk : k < ops.size := (Array.getElem?_eq_some_iff.1 ho).1
  have hxo := operOk_ops hok hx
  cases x with
  | tmp t => exact hI.tmp k t (hI.looks hd ho hL hr (List.mem_append_left _ (List.mem_filterMap.2 ⟨.tmp t, by simpa using hx, rfl⟩)))
  | const v => exact .rig hxo
  | global g =>
    have hg : g < G := by simpa [opndOk] using hxo
    obtain ⟨h1, h2, h3⟩ := hI.glob g hg
    have := VR.ptr (σ := σ) (n := d.n k) (i := g) (o := 0) ⟨Nat.lt_of_lt_of_le h1.1 (n_mono hd (Nat.zero_le k) (Nat.le_of_lt hk)), h1.2⟩
    rw [h2, h3] at this
    exact this
  | func f => exact .rig (by simp [ev, rigid, sc2, sc1, sc0, notYield])

theorem yielded_one {j : Nat} {E : Env} {t : Array Value} {n : Nat} (h : ∀ x, (ops[j]?).bind (·.dst) = some x → VR σ n (E x) (t.getD x undef)) : yielded ops t j = yieldedE ops E j := by
  unfold yielded yieldedE
  cases hd : (ops[j]?).bind (·.dst) with
  | none => rfl
  | some d =>
    have hv := h d hd
    simp only [Option.bind_some]
    rw [Array.getD_eq_getD_getElem?] at hv
    cases ht : t[d]? with
    | none =>
      rw [ht] at hv
      simp only [Option.getD_none] at hv
      cases he : E d with
      | bool b => rw [he] at hv; have := hv.bool_inv; cases this
      | _ => rfl
    | some y =>
      rw [ht] at hv
      simp only [Option.getD_some] at hv
      cases y with
      | bool b => rw [hv.of_bool]
      | _ => cases he : E d with
        | bool b => rw [he] at hv; have := hv.bool_inv; cases this
        | _ => rfl

theorem DInv.wants (hd : DrawOk P lo ops E H n d) (hI : DInv G lo N ops d σ0 w0 D0 L σ a w) {k : Nat} {o : Oper} (ho : ops[k]? = some o) (hL : ¬ L k) (hr : ∀ j, Anc ops j k → L j) : Region.wanted o (yielded ops a.tmps) = wantedE ops (d.E k) o := by
  unfold wantedE Region.wanted
  cases hg : o.guard with
  | none => rfl
  | some g =>
    obtain ⟨j, want⟩ := g
    simp only
    rw [yielded_one (σ := σ) (n := d.n k) (E := d.E k)]
    intro x hx
    refine hI.tmp k x (hI.looks hd ho hL hr (List.mem_append_right _ ?_))
    simp [hg, hx]

/-- Until all are done. -/
theorem draw_any (hN : NoGor P) (hd : DrawOk P lo ops E H n d) (h0 : ∀ i b, H.get i = some b → i < n) (hok : ops.toList.all (operOk G N) = true) {top : Bool} {F : Fence} (hF : Fen top F) {nn : Nat} {Q : Exit → Act → World → Prop}
    (hc : ∀ (k : Nat) (o : Oper) f args tys g a b, ops[k]? = some o → wantedE ops (d.E k) o = true → o.op = .call { callee := .value f, args := args, argTypes := tys } → d.ext k = false → ev (d.E k) f = .func (.func g) a b →
      CallSnd P G (d.lo k) g (a ++ args.map (ev (d.E k)) ++ b) (d.Vw k) (d.n k) (fun v H' n' => v = d.v k ∧ H' = d.V k ∧ n' = d.n (k + 1)))
    (hQ : ∀ σ a w, DInv G lo N ops d σ0 w0 D0 (fun j => j < ops.size) σ a w → Q .normal a w) :
    ∀ (fuel : Nat) (listed : Array Bool) (σ : Nat → Loc) (a : Act) (w : World), listed.size = ops.size → listed.toList.count false = fuel → DInv G lo N ops d σ0 w0 D0 (fun j => j < ops.size ∧ listed.getD j true = true) σ a w →
      wpAnyIn F nn P .any ops Q fuel listed a w := by
  intro fuel
  induction fuel with
  | zero =>
    intro listed σ a w hs hcnt hI
    have hall : ∀ j, j < ops.size → listed.getD j true = true := by
      intro j hj
      have hj' : j < listed.size := by omega
      cases hg : listed.getD j true with
      | true => rfl
      | false =>
        rw [Array.getD_eq_getD_getElem?, Array.getElem?_eq_getElem hj', Option.getD_some] at hg
        have hm : false ∈ listed.toList := by rw [← hg]; simp
        have := List.count_pos_iff.2 hm
        omega
    refine ⟨?_, hQ σ a w (by
      have : (fun j => j < ops.size ∧ listed.getD j true = true) = (fun j => j < ops.size) := by
        funext j; exact propext ⟨fun h => h.1, fun h => ⟨h, hall j h⟩⟩
      rw [this] at hI; exact hI)⟩
    cases hrd : Region.ready .any ops listed with
    | nil => rfl
    | cons i r =>
      have hi : i ∈ Region.ready .any ops listed := by rw [hrd]; simp
      obtain ⟨h1, o, h2, _⟩ := mem_ready.1 hi
      rw [hall i (Array.getElem?_eq_some_iff.1 h2).1] at h1
      cases h1
  | succ fuel ih =>
    intro listed σ a w hs hcnt hI
    refine ⟨fun hnil => ?_, fun i hi => ?_⟩
    · -- some operation is not done yet: the first of them may come
      exfalso
      have hm : false ∈ listed.toList := List.count_pos_iff.1 (by omega)
      obtain ⟨j, hj, hjf⟩ := List.getElem_of_mem hm
      have getB : ∀ k (b c : Bool), k < ops.size → listed.getD k b = listed.getD k c := fun k b c hk => by
        rw [Array.getD_eq_getD_getElem?, Array.getD_eq_getD_getElem?, Array.getElem?_eq_getElem (by omega)]; rfl
      have key : ∀ k, k < ops.size → listed.getD k true = false → ∃ m, m ∈ Region.ready .any ops listed := by
        intro k
        induction k using Nat.strongRecOn with
        | _ k ihk =>
          intro hk hkf
          by_cases hall : ∀ e ∈ (ops[k]!).after, Region.binds .any e = true → listed.getD e.on false = true
          · exact ⟨k, mem_ready.2 ⟨hkf, _, opAt hk, hall⟩⟩
          · simp only [Classical.not_forall] at hall
            obtain ⟨e, he, hb, hn⟩ := hall
            have h1 := hd.edges k _ e (opAt hk) he hb
            refine ihk e.on h1 (by omega) ?_
            rw [getB e.on true false (by omega)]
            cases hg : listed.getD e.on false with
            | true => exact absurd hg hn
            | false => rfl
      have hj' : j < listed.size := by simpa using hj
      obtain ⟨m, hm⟩ := key j (by omega) (by
        rw [Array.getD_eq_getD_getElem?, Array.getElem?_eq_getElem hj', Option.getD_some]; simpa using hjf)
      rw [hnil] at hm
      cases hm
    · obtain ⟨hif, o, ho, hall⟩ := mem_ready.1 hi
      have hk : i < ops.size := (Array.getElem?_eq_some_iff.1 ho).1
      have hL : ¬ (i < ops.size ∧ listed.getD i true = true) := by rintro ⟨_, h⟩; rw [hif] at h; cases h
      have hr : ∀ j, Anc ops j i → (j < ops.size ∧ listed.getD j true = true) := by
        intro j hj
        have main : ∀ x y, Anc ops x y → y = i → (x < ops.size ∧ listed.getD x true = true) := by
          intro x y hxy
          induction hxy with
          | @edge k o' e ho' he hb =>
            intro hy
            subst hy
            rw [ho] at ho'
            cases ho'
            have h1 := hd.edges _ o e ho he hb
            have h2 := hall e he hb
            refine ⟨by omega, ?_⟩
            rw [Array.getD_eq_getD_getElem?, Array.getElem?_eq_getElem (by omega)] at h2 ⊢
            exact h2
          | trans h h' ih1 ih2 => intro hy; exact hI.down _ _ h (ih2 hy)
        exact main j i hj rfl
      have hoo : operOk G N o = true := List.all_eq_true.1 hok o (by rw [Array.mem_toList_iff]; exact Array.mem_of_getElem? ho)
      have hi' : i < listed.size := by omega
      have hLnew : (fun j => (j < ops.size ∧ listed.getD j true = true) ∨ j = i) = (fun j => j < ops.size ∧ (listed.setIfInBounds i true).getD j true = true) := by
        funext j
        refine propext ?_
        rw [Array.getD_eq_getD_getElem?, Array.getD_eq_getD_getElem?, Array.getElem?_setIfInBounds]
        by_cases hji : i = j
        · subst hji; simp [hi', hk]
        · rw [if_neg hji]
          constructor
          · rintro (h | h)
            · exact h
            · exact absurd h.symm hji
          · exact .inl
      have hcnt' : (listed.setIfInBounds i true).toList.count false = fuel := by
        have hlf : listed[i] = false := by
          rw [Array.getD_eq_getD_getElem?, Array.getElem?_eq_getElem hi', Option.getD_some] at hif; exact hif
        rw [Array.toList_setIfInBounds, List.count_set (by simpa using hi')]
        have hcnt2 : Array.count false listed = fuel + 1 := by rw [← hcnt]; simp
        simp [hlf]
        omega
      have next : ∀ σ2 v' w2, DInv G lo N ops d σ0 w0 D0 (fun j => (j < ops.size ∧ listed.getD j true = true) ∨ j = i) σ2 (a.put o.dst v') w2 → wpAnyIn F nn P .any ops Q fuel (listed.setIfInBounds i true) (a.put o.dst v') w2 := by
        intro σ2 v' w2 hI2
        rw [hLnew] at hI2
        exact ih (listed.setIfInBounds i true) σ2 _ w2 (by simpa using hs) hcnt' hI2
      unfold wpOpIn
      simp only [ho]
      rw [hI.wants hd ho hL hr]
      cases hw : wantedE ops (d.E i) o with
      | false =>
        simp only [Bool.false_eq_true, if_false]
        exact ⟨fun f _ => hF.fn f, next _ _ _ (hI.skip hd ho hL hr (operOk_dst hoo) hw)⟩
      | true =>
        simp only [if_true]
        have hRel := hI.viewRel hd hk hL hr (H_bnd hd h0 i (Nat.le_of_lt hk))
        have one : OneSnd P G (d.lo i) o (d.E i) (d.Vw i) (d.n i) (d.v i) (d.V i) (d.n (i + 1)) := by
          by_cases hcall : ∃ f args tys, o.op = .call { callee := .value f, args := args, argTypes := tys }
          · obtain ⟨f, args, tys, hop⟩ := hcall
            obtain ⟨g, x, y, fn, hf, hfn, hcase⟩ := hd.callf i o f args tys ho hw hop
            rcases hcase with ⟨hx, c, hb⟩ | ⟨hx, hb, hnx, he⟩
            · exact one_call hN hop hf hfn hb (hc i o f args tys g x y ho hw hop hx hf)
            · rcases he with he | he
              · exact one_ext hN hop hf hfn hb hnx he
              · exact one_mnz hN hop hf hfn hb hnx he
          · exact one_prim (hd.prim i o ho hw (fun f args tys h => hcall ⟨f, args, tys, h⟩))
        exact one top F nn σ w a _ Q hF hRel (hI.operand hd ho hL hr hoo) (fun v' w' σ' h1 h2 h3 => next _ _ _ (hI.step hd h0 ho hL hr (operOk_dst hoo) h1 h2 h3))

end Go.AL
