/- The evaluator is sound: regions that draw. -/
import Derived.Test.YtonhkjkdmfaodaaGreatDoorALEvalS3
set_option linter.unusedVariables false
set_option linter.unusedSimpArgs false
namespace Go.AL
open Go.RowKit

variable {P : Program} {G : Nat} {Giv : GivT} {F : FuncId → Option Func} {X : FuncId → XF} {rec : Eval}

theorem Good.draw {ops : Array Oper} {u : List Nat} {us : List (List Nat)} {o : Oper} {rest : List Oper} {recs : List Rec} {E E1 : VT} {ds : List Nat} {H H1 : Heap} {n n1 m m1 : Nat} {r : R} (s : Snap)
    (h1 : m1 ≤ m) (hg : Grow H n H1 n1) (hf : ∀ i, i < m1 → H1.get i = H.get i) (hk : LoopKeep n H H1) (g2 : Good P G Giv (.draw ops us rest (recs ++ [s.rc]) E1 ds) H1 n1 m1 r)
    (hE : s.E = E) (hH : s.H = H) (hn : s.n = n) (hp : s.rc.triv ∨ pairs recs u s.rc = true)
    (ho : ∀ lo s', lo ≤ m1 → s'.E = E1 → s'.H = H1 → s'.n = n1 → OpOk P G Giv lo ops o s s') : Good P G Giv (.draw ops (u :: us) (o :: rest) recs E ds) H n m r := by
  refine .after h1 hg hf hk g2 fun lo _ hlo t => ?_
  obtain ⟨e1, e2, L, fin, f1, f2, f3, f4, f5, f6, hc⟩ := t
  exact ⟨e1, e2, s :: L, fin, f1, f2, f3, hE, hH, hn, ho lo _ hlo f4 f5 f6, hp, hc⟩

theorem triv_visB (n : Nat) (i : Nat) : ¬ visR ⟨false, [], [], n, n, n⟩ i := by simp [visR, visB]
theorem triv_wrB (n : Nat) (i : Nat) : ¬ wrR ⟨false, [], [], n, n, n⟩ i := by simp [wrR, wrB, visB]

/-- An operation that does nothing to the heap and sees nothing of it. -/
theorem OpOk.quiet {lo : Nat} {ops : Array Oper} {o : Oper} {E E1 : VT} {H V : Heap} {n : Nat} {v : Value} {s' : Snap} {ext : Bool} (hE : s'.E = E.put o.dst v) (hH : s'.H = H) (hn : s'.n = n) (hd : Dom H n) (hlo : lo ≤ n)
    (unw : wantedE ops E.fn o = false → v = undef)
    (prim : wantedE ops E.fn o = true → (∀ f args tys, o.op ≠ .call { callee := .value f, args := args, argTypes := tys }) → False)
    (callf : ∀ f args tys, wantedE ops E.fn o = true → o.op = .call { callee := .value f, args := args, argTypes := tys } →
      ∃ g a b fn, ev E.fn f = .func (.func g) a b ∧ P.funcs[g]? = some fn ∧ (ext = true ∧ fn.body = none ∧ (Extern.findNext fn).isNone = true ∧ aExt P fn (a ++ args.map (ev E.fn) ++ b) ⟨.nil, []⟩ n = some (v, ⟨.nil, []⟩, n))) :
    OpOk P G Giv lo ops o ⟨E, H, n, v, ⟨.nil, []⟩, ⟨.nil, []⟩, ⟨false, [], [], n, n, n⟩, ext⟩ s' where
  le := by rw [hn]; exact Nat.le_refl _
  env := by rw [hE, VT.fn_put]
  n0 := rfl
  n1 := hn.symm
  view i b h := by
    have : (Heap.get ⟨.nil, []⟩ i : Option Blk) = none := by simp [Heap.get, inRange, Tree.get]
    rw [this] at h; cases h
  low := hlo
  vlt i h := absurd h (triv_visB n i)
  keepH i _ _ := by rw [hH]
  newH i b h h' := by
    rw [hH] at h'
    rcases h with h | h
    · exact absurd h (triv_wrB n i)
    · have := hd i b h'; have h : n ≤ i := h; omega
  newlt i b h := by rw [hH] at h; exact .inl (by simp [h])
  unw h := ⟨unw h, hn, triv_wrB n⟩
  prim h h' := (prim h h').elim
  callf f args tys h h' := by
    obtain ⟨g, a, b, fn, h1, h2, h3, h4, h5, h6⟩ := callf f args tys h h'
    refine ⟨g, a, b, fn, h1, h2, .inr ⟨h3, h4, h5, .inl ?_⟩⟩
    rw [hn]; exact h6
  hc f args tys g a b h h' he h2 := by
    obtain ⟨_, _, _, _, _, _, h3, _⟩ := callf f args tys h h'
    rw [h3] at he; cases he

theorem good_draw (T : Tabs P G F X) (hrec : Fine P G Giv rec) {ops : Array Oper} {u : List Nat} {us : List (List Nat)} {o : Oper} {rest : List Oper} {recs : List Rec} {E : VT} {ds : List Nat} {H : Heap} {n m : Nat} {r : R}
    (hd : Dom H n) (hh : H.hid = []) (hm : m ≤ n) (h : stepDraw P F X rec ops u us o rest recs E ds H n m = some r) : Good P G Giv (.draw ops (u :: us) (o :: rest) recs E ds) H n m r := by
  unfold stepDraw at h
  split at h
  · rename_i hw
    have g2 := hrec _ _ _ _ _ hd hh hm h
    refine Good.draw ⟨E, H, n, undef, ⟨.nil, []⟩, ⟨.nil, []⟩, ⟨false, [], [], n, n, n⟩, false⟩ (Nat.le_refl _) .refl (fun _ _ => rfl) (.refl _ _) g2 rfl rfl rfl (.inl ⟨triv_visB n, rfl⟩) (fun lo s' hlo h1 h2 h3 => ?_)
    exact OpOk.quiet (E1 := E) (V := H) h1 h2 h3 hd (Nat.le_trans hlo hm) (fun _ => rfl) (fun h => by rw [hw] at h; cases h) (fun f args tys h => by rw [hw] at h; cases h)
  rename_i hw
  split at h
  · rename_i f args tys ho
    split at h
    case h_2 => cases h
    rename_i g a b hf
    split at h
    · rename_i fn hfn
      have hfn := T.fn _ _ hfn
      split at h
      case h_2 => cases h
      rename_i c hb
      split at h
      case h_2 => cases h
      rename_i r1 h1
      split at h
      case h_2 => cases h
      rename_i hp
      generalize hrem : remOf recs u = rem at h1 hp h
      have hgw : Grow H n (wipe rem H) n := by
        refine ⟨Nat.le_refl _, fun i b hb => ?_⟩
        rw [wipe_get rem H i hh] at hb
        split at hb
        · cases hb
        · exact .inl (by simp [hb])
      have hhw : (wipe rem H).hid = [] := by rw [wipe_hid]; exact hh
      rw [norm_eq hhw] at h1
      have g1 := hrec _ _ _ _ _ (hgw.dom hd) hhw (Nat.le_refl _) h1
      rw [norm_eq (by rw [copyTo_hid]; exact g1.hid)] at h
      have hget : ∀ i, (copyTo H rem r1.H).get i = if rem.contains i then H.get i else r1.H.get i := fun i => copyTo_get H rem r1.H i g1.hid
      have hg2 : Grow H n (copyTo H rem r1.H) r1.n := by
        refine ⟨g1.grow.1, fun i b hb => ?_⟩
        rw [hget] at hb
        split at hb
        · exact .inl (by simp [hb])
        · rcases g1.grow.2 i b hb with h4 | h4
          · rw [wipe_get rem H i hh] at h4
            split at h4
            · cases h4
            · exact .inl h4
          · exact .inr h4
      have hlk : LoopKeep n H (copyTo H rem r1.H) := by
        intro i El ps asg body st pend hi hb
        rw [hget]
        split
        · exact ⟨st, pend, hb, fun e => ⟨e, rfl⟩⟩
        · rename_i hc
          exact g1.loop i El ps asg body st pend hi (by rw [wipe_get rem H i hh, if_neg hc]; exact hb)
      have hfr : ∀ i, i < r1.m → (copyTo H rem r1.H).get i = H.get i := by
        intro i hi
        rw [hget]
        split
        · rfl
        · rename_i hc
          rw [g1.frame i hi, wipe_get rem H i hh, if_neg hc]
      have hmm1 : Nat.min m r1.m ≤ m := Nat.min_le_left _ _
      have hmm2 : Nat.min m r1.m ≤ r1.m := Nat.min_le_right _ _
      have g2 := hrec _ _ _ _ _ (hg2.dom hd) (by rw [copyTo_hid]; exact g1.hid) (by have := g1.grow.1; omega) h
      refine Good.draw ⟨E, H, n, r1.v, wipe rem H, r1.H, ⟨true, [], rem, r1.m, n, r1.n⟩, false⟩ hmm1 hg2 (fun i hi => hfr i (by omega)) hlk g2 rfl rfl rfl (.inr hp) (fun lo s' hlo e1 e2 e3 => ?_)
      refine ⟨by rw [e3]; exact g1.grow.1, by rw [e1, VT.fn_put], rfl, e3.symm, fun i b hb => ?_, Nat.le_trans hlo hmm2, fun i hi => ?_, fun i hi hni => ?_, fun i b hi hb => ?_, fun i b hb => ?_, (fun h => by rw [hw] at h; cases h),
        fun _ hne => absurd ho (hne f args tys), fun f' args' tys' _ ho' => ?_, fun f' args' tys' g' a' b' _ ho' _ hf' => ?_⟩
      · have hb : (wipe rem H).get i = some b := hb
        rw [wipe_get rem H i hh] at hb
        split at hb
        · cases hb
        · rename_i hc
          have := hd i b hb
          exact ⟨hb, by simp only [visR, visB, Bool.and_eq_true, decide_eq_true_eq, Bool.not_eq_true']; exact ⟨this, by simpa using hc⟩⟩
      · simp only [visR, visB, Bool.and_eq_true, decide_eq_true_eq] at hi
        exact hi.1
      · rw [e2, hget]
        split
        · rfl
        · rename_i hc
          have hi : i < n := hi
          have : i < r1.m := by
            simp only [wrR, wrB, visB, Bool.and_eq_true, decide_eq_true_eq, Bool.not_eq_true'] at hni
            have hc' : rem.contains i = false := by simpa using hc
            rcases Nat.lt_or_ge i r1.m with h5 | h5
            · exact h5
            · exact absurd ⟨⟨hi, hc'⟩, h5⟩ hni
          rw [g1.frame i this, wipe_get rem H i hh, if_neg hc]
      · rw [e2, hget] at hb
        split at hb
        · rename_i hc
          rcases hi with hi | hi
          · simp only [wrR, wrB, visB, Bool.and_eq_true, decide_eq_true_eq, Bool.not_eq_true'] at hi
            rw [hc] at hi; simp at hi
          · have := hd i b hb; have hi : n ≤ i := hi; omega
        · exact hb
      · rw [e2] at hb
        rw [e3]
        exact hg2.2 i b hb
      · rw [ho] at ho'
        cases ho'
        exact ⟨g, a, b, fn, hf, hfn, .inl ⟨rfl, c, hb⟩⟩
      · rw [ho] at ho'
        cases ho'
        have hf' : ev E.fn f = .func (.func g') a' b' := hf'
        rw [hf] at hf'
        cases hf'
        have := g1.sem r1.m (Nat.le_refl _)
        rw [e3]
        exact this
    · split at h
      · rename_i v he
        obtain ⟨fn, hfn, hb, hx, he⟩ := xCall_ok (H := ⟨.nil, []⟩) (n := n) (T.ext g) he
        have g2 := hrec _ _ _ _ _ hd hh hm h
        refine Good.draw ⟨E, H, n, v, ⟨.nil, []⟩, ⟨.nil, []⟩, ⟨false, [], [], n, n, n⟩, true⟩ (Nat.le_refl _) .refl (fun _ _ => rfl) (.refl _ _) g2 rfl rfl rfl (.inl ⟨triv_visB n, rfl⟩) (fun lo s' hlo h1 h2 h3 => ?_)
        refine OpOk.quiet (E1 := E) (V := H) h1 h2 h3 hd (Nat.le_trans hlo hm) (fun h => by rw [hw] at h; cases h) (fun _ hne => hne f args tys ho) (fun f' args' tys' _ ho' => ?_)
        rw [ho] at ho'
        cases ho'
        exact ⟨g, a, b, fn, hf, hfn, rfl, hb, hx, he⟩
      · split at h
        case h_2 => cases h
        rename_i v V n' he
        split at h
        case h_2 => cases h
        rename_i hp
        obtain ⟨⟨⟨fn, hfn, hb, hx, he⟩, hs⟩, hn'⟩ := xMake_ok (T.ext g) he
        have hget : ∀ i, (copyTo V [n] H).get i = if i = n then V.get i else H.get i := by
          intro i
          rw [copyTo_get V [n] H i hh]
          simp
        have hg2 : Grow H n (copyTo V [n] H) n' := by
          refine ⟨by omega, fun i b hb => ?_⟩
          rw [hget] at hb
          split at hb
          · exact .inr (by omega)
          · exact .inl (by simp [hb])
        have hfr : ∀ i, i < m → (copyTo V [n] H).get i = H.get i := fun i hi => by rw [hget, if_neg (by omega)]
        have hlk : LoopKeep n H (copyTo V [n] H) := .same fun i hi _ => by rw [hget, if_neg (by omega)]
        rw [norm_eq (by rw [copyTo_hid]; exact hh)] at h
        have g2 := hrec _ _ _ _ _ (hg2.dom hd) (by rw [copyTo_hid]; exact hh) (by omega) h
        refine Good.draw ⟨E, H, n, v, ⟨.nil, []⟩, V, ⟨false, [], [], n, n, n'⟩, true⟩ (Nat.le_refl _) hg2 hfr hlk g2 rfl rfl rfl (.inr hp) (fun lo s' hlo e1 e2 e3 => ?_)
        have nov : ∀ i, ¬ visR ⟨false, [], [], n, n, n'⟩ i := fun i => by simp [visR, visB]
        have now : ∀ i, ¬ wrR ⟨false, [], [], n, n, n'⟩ i := fun i => by simp [wrR, wrB, visB]
        refine ⟨by rw [e3]; exact hg2.1, by rw [e1, VT.fn_put], rfl, e3.symm, fun i b hb => ?_, Nat.le_trans hlo hm, fun i hi => absurd hi (nov i), fun i hi _ => ?_, fun i b hi hb => ?_, fun i b hb => ?_, (fun h => by rw [hw] at h; cases h),
          fun _ hne => absurd ho (hne f args tys), fun f' args' tys' _ ho' => ?_, fun f' args' tys' g' a' b' _ ho' hx' _ => by cases hx'⟩
        · have : (Heap.get ⟨.nil, []⟩ i : Option Blk) = none := by simp [Heap.get, inRange, Tree.get_nil]
          rw [this] at hb; cases hb
        · have hi : i < n := hi
          rw [e2, hget, if_neg (by omega)]
        · rw [e2, hget] at hb
          split at hb
          · exact hb
          · rcases hi with hi | hi
            · exact absurd hi (now i)
            · have := hd i b hb; have hi : n ≤ i := hi; omega
        · rw [e2] at hb; rw [e3]; exact hg2.2 i b hb
        · rw [ho] at ho'
          cases ho'
          refine ⟨g, a, b, fn, hf, hfn, .inr ⟨rfl, hb, hx, .inr ?_⟩⟩
          rw [e3]; exact he
  · rename_i hne
    split at h
    case h_2 => cases h
    rename_i v V n' ha
    have ha := eOp_ok ha
    split at h
    case h_2 => cases h
    rename_i hp
    generalize hvis : touch o (ev E.fn) H = vis at ha hp h
    generalize hwr : wrOf o (ev E.fn) = wr at hp h
    have hvd : ∀ i, i ∈ vis → (H.get i).isSome = true := by
      intro i hi
      rw [← hvis] at hi
      simp only [touch, List.mem_filter] at hi
      exact hi.2
    have hvlt : ∀ i, i ∈ vis → i < n := by
      intro i hi
      obtain ⟨b, hb⟩ := Option.isSome_iff_exists.1 (hvd i hi)
      exact hd i b hb
    obtain ⟨hs, hal⟩ := w_op ha
    rw [hwr] at hs hal
    have hgv : ∀ i, (view H vis).get i = if vis.contains i then H.get i else none := view_get H vis
    have hget : ∀ i, (copyTo V (backOf n n' (loOf n wr) vis) H).get i = if (backOf n n' (loOf n wr) vis).contains i then V.get i else H.get i := fun i => copyTo_get V _ H i hh
    have hback : ∀ i, (backOf n n' (loOf n wr) vis).contains i = true ↔ (i ∈ vis ∧ loOf n wr ≤ i) ∨ (n' ≠ n ∧ i = n) := by
      intro i
      simp only [backOf, List.contains_eq_mem, List.mem_append, List.mem_filter, decide_eq_true_eq]
      by_cases e : n' = n <;> simp [e]
    have hn' : n' = n ∨ n' = n + 1 := by cases hs <;> simp
    have hdv : Dom (view H vis) n := by
      intro i b hb
      rw [hgv] at hb
      split at hb
      · exact hd i b hb
      · cases hb
    have hg2 : Grow H n (copyTo V (backOf n n' (loOf n wr) vis) H) n' := by
      refine ⟨by omega, fun i b hb => ?_⟩
      rw [hget] at hb
      split at hb
      · rename_i hc
        rcases (hback i).1 hc with ⟨hi, _⟩ | ⟨hne', rfl⟩
        · exact .inl (hvd i hi)
        · exact .inr ⟨Nat.le_refl _, by omega⟩
      · exact .inl (by simp [hb])
    have hwl : ∀ i, minO m wr ≤ i ∨ i < minO m wr := fun i => by omega
    have hlom : minO m wr ≤ loOf n wr := by
      cases wr with
      | none => exact hm
      | some i => exact Nat.min_le_right _ _
    have hlk : LoopKeep n H (copyTo V (backOf n n' (loOf n wr) vis) H) := by
      refine .same fun i hi ⟨El, ps, asg, body, st, pend, hb⟩ => ?_
      rw [hget]
      split
      · rename_i hc
        rcases (hback i).1 hc with ⟨hiv, _⟩ | ⟨hne', e⟩
        · have e2 : (view H vis).get i = H.get i := by rw [hgv, if_pos (by simpa using hiv)]
          have := hs.loop hi (e2.trans hb) rfl
          rw [this, e2]
        · omega
      · rfl
    have hm2 : minO m wr ≤ n' := by have := minO_le m wr; omega
    rw [norm_eq (by rw [copyTo_hid]; exact hh)] at h
    have g2 := hrec _ _ _ _ _ (hg2.dom hd) (by rw [copyTo_hid]; exact hh) hm2 h
    have hfr : ∀ i, i < minO m wr → (copyTo V (backOf n n' (loOf n wr) vis) H).get i = H.get i := by
      intro i hi
      rw [hget, if_neg]
      intro hc
      have := minO_le m wr
      rcases (hback i).1 hc with ⟨_, h5⟩ | ⟨_, h5⟩ <;> omega
    refine Good.draw ⟨E, H, n, v, view H vis, V, ⟨false, vis, [], loOf n wr, n, n'⟩, false⟩ (minO_le _ _) hg2 hfr hlk g2 rfl rfl rfl (.inr hp) (fun lo s' hlo e1 e2 e3 => ?_)
    refine ⟨by rw [e3]; exact hg2.1, by rw [e1, VT.fn_put], rfl, e3.symm, fun i b hb => ?_, Nat.le_trans hlo hlom, fun i hi => ?_, fun i hi hni => ?_, fun i b hi hb => ?_, fun i b hb => ?_, (fun h => by rw [hw] at h; cases h), fun _ _ => ?_,
      fun f' args' tys' _ ho' => absurd ho' (hne f' args' tys'), fun f' args' tys' g' a' b' _ ho' _ hf' => absurd ho' (hne f' args' tys')⟩
    · have hb : (view H vis).get i = some b := hb
      rw [hgv] at hb
      split at hb
      · rename_i hc; exact ⟨hb, by simpa [visR, visB] using hc⟩
      · cases hb
    · exact hvlt i (by simpa [visR, visB] using hi)
    · rw [e2, hget, if_neg]
      intro hc
      have hi : i < n := hi
      rcases (hback i).1 hc with ⟨h4, h5⟩ | ⟨_, h5⟩
      · exact hni (by simp [wrR, wrB, visB, h4, h5])
      · omega
    · rw [e2, hget] at hb
      split at hb
      · exact hb
      · rename_i hc
        exfalso
        apply hc
        rw [hback]
        rcases hi with hi | hi
        · simp only [wrR, wrB, visB, Bool.and_eq_true, decide_eq_true_eq, List.contains_eq_mem] at hi
          exact .inl hi
        · have := hd i b hb
          have hi : n ≤ i := hi
          omega
    · rw [e2] at hb; rw [e3]; exact hg2.2 i b hb
    · rw [e3]
      refine hal (loOf n wr) fun i e => ?_
      subst e
      exact Nat.le_refl _

end Go.AL
