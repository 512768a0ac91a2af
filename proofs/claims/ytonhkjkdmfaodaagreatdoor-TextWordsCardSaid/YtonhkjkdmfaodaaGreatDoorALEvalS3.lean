/- The evaluator is sound: operations in order. -/
import Derived.Test.YtonhkjkdmfaodaaGreatDoorALEvalS2
set_option linter.unusedVariables false
set_option linter.unusedSimpArgs false
namespace Go.AL
open Go.RowKit

variable {P : Program} {G : Nat} {Giv : GivT} {F : FuncId → Option Func} {X : FuncId → XF} {rec : Eval}

theorem good_ops_next {N : Nat} {ops : Array Oper} {o : Oper} {rest : List Oper} {E : VT} {ds : List Nat} {H H1 : Heap} {n n1 m m1 : Nat} {v : Value} {r : R}
    (h1 : m1 ≤ m) (hg : Grow H n H1 n1) (hf : ∀ i, i < m1 → H1.get i = H.get i) (hk : LoopKeep n H H1) (h2 : Good P G Giv (.ops N ops rest (E.put o.dst v) ds) H1 n1 m1 r)
    (hs : ∀ lo, lo ≤ m1 → ROps P G Giv lo N ops rest (E.fn.put o.dst v) H1 n1 (fun E' H' n' => E' = r.E.fn ∧ H' = r.H ∧ n' = r.n) → ROps P G Giv lo N ops (o :: rest) E.fn H n (fun E' H' n' => E' = r.E.fn ∧ H' = r.H ∧ n' = r.n)) :
    Good P G Giv (.ops N ops (o :: rest) E ds) H n m r := by
  refine .after h1 hg hf hk h2 fun lo _ hlo s => ?_
  obtain ⟨e1, e2, s⟩ := s
  rw [VT.fn_put] at s
  exact ⟨e1, e2, hs lo hlo s⟩

theorem asgOps_good {ops : Array Oper} {l : Nat} {N : Nat} {b : Blk} (hb : notLoop b = false) : ∀ (rest : List Oper) (E : VT) (H : Heap) (n m : Nat) {E' : VT} {H' : Heap} {n' m' : Nat},
    Dom H n → H.hid = [] → l < n → H.get l = some b → asgOps P ops rest E H n m = some (E', H', n', m') →
    H'.hid = [] ∧ m' ≤ m ∧ Grow H n H' n' ∧ (∀ i, i < n → i < m' → H'.get i = H.get i) ∧ LoopKeep n H H' ∧ H'.get l = some b ∧ ∀ lo, lo ≤ m' → ROps P G Giv lo N ops rest E.fn H n (fun E1 H1 n1 => E1 = E'.fn ∧ H1 = H' ∧ n1 = n') := by
  intro rest
  induction rest with
  | nil =>
    intro E H n m E' H' n' m' hd hh hl hg h
    cases h
    exact ⟨hh, Nat.le_refl _, .refl, fun _ _ _ => rfl, .refl _ _, hg, fun lo _ => .nil ⟨rfl, rfl, rfl⟩⟩
  | cons o rest ih =>
    intro E H n m E' H' n' m' hd hh hl hg h
    simp only [asgOps] at h
    split at h
    · cases h
    rename_i hw
    split at h
    case h_2 => cases h
    rename_i v H1 n1 ho
    obtain ⟨hs, hlo⟩ := w_op ho
    have e1 : H1.get l = some b := by rw [hs.loop hl hg hb]; exact hg
    obtain ⟨k1, k2, k3, k4, k5, k6, k7⟩ := ih _ _ _ _ (hs.grow.dom hd) (by rw [hs.hid]; exact hh) (Nat.lt_of_lt_of_le hl hs.grow.1) e1 h
    refine ⟨k1, Nat.le_trans k2 (minO_le _ _), hs.grow.trans k3, fun i hi hi' => ?_, hs.keep.trans k5 hs.grow.1, k6, fun lo hl' => ?_⟩
    · rw [k4 i (Nat.lt_of_lt_of_le hi hs.grow.1) hi']
      refine hs.frame hi (fun e => ?_)
      have := minO_wr (m := m) e
      omega
    · refine .op hw (hlo lo fun i e => ?_) ?_
      · have := minO_wr (m := m) e
        omega
      · have := k7 lo hl'
        rw [VT.fn_put] at this
        exact this

theorem asgRun_good {c : Code} {E : VT} {H : Heap} {n m : Nat} {E' : VT} {H' : Heap} {n' m' l N : Nat} {b : Blk} (hb : notLoop b = false) (hd : Dom H n) (hh : H.hid = []) (hl : l < n) (hg : H.get l = some b) (h : asgRun P c E H n m = some (E', H', n', m')) :
    H'.hid = [] ∧ m' ≤ m ∧ Grow H n H' n' ∧ (∀ i, i < n → i < m' → H'.get i = H.get i) ∧ LoopKeep n H H' ∧ H'.get l = some b ∧
      ∀ lo, lo ≤ m' → Run P G Giv false lo N c E.fn [] H n (fun x E1 ds1 H1 n1 => x = .normal ∧ E1 = E'.fn ∧ ds1 = [] ∧ H1 = H' ∧ n1 = n') := by
  unfold asgRun at h
  split at h
  · cases h
    exact ⟨hh, Nat.le_refl _, .refl, fun _ _ _ => rfl, .refl _ _, hg, fun lo _ => .skip ⟨rfl, rfl, rfl, rfl, rfl⟩⟩
  · obtain ⟨k1, k2, k3, k4, k5, k6, k7⟩ := asgOps_good (P := P) (G := G) (Giv := Giv) (N := N) hb _ _ _ _ _ hd hh hl hg h
    refine ⟨k1, k2, k3, k4, k5, k6, fun lo hlo => .region ?_⟩
    have := k7 lo hlo
    have e : (fun (E1 : Env) (H1 : Heap) (n1 : Nat) => E1 = E'.fn ∧ H1 = H' ∧ n1 = n') = (fun E1 H1 n1 => XX.normal = XX.normal ∧ E1 = E'.fn ∧ ([] : List Nat) = [] ∧ H1 = H' ∧ n1 = n') := by
      funext E1 H1 n1; simp
    rw [e] at this
    exact this
  · cases h

theorem good_yield (hrec : Fine P G Giv rec) {N : Nat} {ops : Array Oper} {o : Oper} {rest : List Oper} {f : Operand} {args : Array Operand} {tys : Array TypeId} {l : Nat} {E : VT} {ds : List Nat} {H : Heap} {n m : Nat} {r : R}
    (hd : Dom H n) (hh : H.hid = []) (hm : m ≤ n) (hw : wantedE ops E.fn o = true) (ho : o.op = .call { callee := .value f, args := args, argTypes := tys }) (hf : ev E.fn f = .func (.yield l) #[] #[])
    (h : stepYield P G rec N ops o rest args l E ds H n m = some r) : Good P G Giv (.ops N ops (o :: rest) E ds) H n m r := by
  unfold stepYield at h
  split at h
  case h_2 => cases h
  rename_i El ps asg body pend hl
  split at h
  case isFalse => cases h
  rename_i hc
  obtain ⟨hsz, hok, hok2⟩ := hc
  split at h
  case h_2 => cases h
  rename_i E1 H1 n1 m1 ha
  split at h
  case h_2 => cases h
  rename_i r1 h1
  have hln := hd l _ hl
  obtain ⟨a1, a2, a3, a4, a5, a6, a7⟩ := asgRun_good (P := P) (G := G) (Giv := Giv) (N := El.size) rfl hd hh hln hl ha
  have hln1 : l < n1 := Nat.lt_of_lt_of_le hln a3.1
  have hg1 : Grow H1 n1 (H1.upd l (some (.loop El ps asg body .busy pend))) n1 := .set _ a6
  rw [norm_eq (by exact a1)] at h1
  have hle : m1 ≤ n1 := Nat.le_trans a2 (Nat.le_trans hm a3.1)
  have g1 := hrec _ _ _ _ _ (hg1.dom (a3.dom hd)) (by rw [Heap.hid_upd]; exact a1) hle h1
  have hb : r1.H.get l = some (.loop El ps asg body .busy pend) := by
    obtain ⟨st', pend', e1, e2⟩ := g1.loop l El ps asg body .busy pend hln1 (by rw [Heap.get_upd0 a1, if_pos rfl])
    obtain ⟨rfl, rfl⟩ := e2 rfl
    exact e1
  have hln2 : l < r1.n := Nat.lt_of_lt_of_le hln1 g1.grow.1
  have hg2 : Grow r1.H r1.n (r1.H.upd l (some (.loop El ps asg body (if (jumpOf r1.x).isNone then .ready else .done) (jumpOf r1.x)))) r1.n := .set _ hb
  have hml1 : Nat.min r1.m l ≤ r1.m := Nat.min_le_left _ _
  have hml2 : Nat.min r1.m l ≤ l := Nat.min_le_right _ _
  have hr1m := g1.mle
  rw [norm_eq (by exact g1.hid)] at h
  have g2 := hrec _ _ _ _ _ (hg2.dom (g1.grow.dom (hg1.dom (a3.dom hd)))) (by rw [Heap.hid_upd]; exact g1.hid) (by have := g1.grow.1; omega) h
  have hlk1 : LoopKeep n1 H1 (r1.H.upd l (some (.loop El ps asg body (if (jumpOf r1.x).isNone then .ready else .done) (jumpOf r1.x)))) := by
    intro i El' ps' asg' body' st' pend' hi hb'
    rw [Heap.get_upd0 g1.hid]
    by_cases e : i = l
    · subst e
      rw [a6] at hb'
      cases hb'
      exact ⟨_, _, by rw [if_pos rfl], fun e => by cases e⟩
    · rw [if_neg e]
      exact g1.loop i El' ps' asg' body' st' pend' hi (by rw [Heap.get_upd0 a1, if_neg e]; exact hb')
  refine good_ops_next (m1 := Nat.min r1.m l) (by omega) (a3.trans (hg1.trans (g1.grow.trans hg2))) (fun i hi => ?_) (a5.trans hlk1 a3.1) g2 (fun lo hlo s => ?_)
  · rw [Heap.get_upd_ne _ _ (by omega), g1.frame i (by omega), Heap.get_upd_ne _ _ (by omega), a4 i (by omega) (by omega)]
  · have s2 := g1.sem lo (by omega)
    have s1 := a7 lo (by omega)
    rw [VT.fn_ofA] at s1
    refine .yield (QA := fun x E2 ds2 H2 n2 => x = .normal ∧ E2 = E1.fn ∧ ds2 = [] ∧ H2 = H1 ∧ n2 = n1) (QB := exactQ r1)
      (K1 := fun v H' n' => v = .bool (jumpOf r1.x).isNone ∧ H' = r1.H.upd l (some (.loop El ps asg body (if (jumpOf r1.x).isNone then .ready else .done) (jumpOf r1.x))) ∧ n' = r1.n) hw ho hf (by omega) hl ?_ hok hok2 s1 ?_ ?_ ?_ ?_
    · exact hsz
    · rintro x E' ds' H' n' ⟨rfl, rfl, rfl, rfl, rfl⟩; exact ⟨rfl, a6⟩
    · rintro E' ds' H' n' ⟨_, rfl, rfl, rfl, rfl⟩; exact s2
    · rintro x E' ds' H' n' ⟨rfl, rfl, rfl, rfl, rfl⟩; exact ⟨hb, rfl, rfl, rfl⟩
    · rintro v H' n' ⟨rfl, rfl, rfl⟩; exact s

theorem nextOf_spec {x : Value} {H H' : Heap} {n i : Nat} {v : Value} (h : nextOf x H = some (v, H', i)) : Shp H n (some i) H' n ∧ ∀ lo, lo ≤ i → aNextM lo x H n (fun v1 H1 n1 => v1 = v ∧ H1 = H' ∧ n1 = n) := by
  unfold nextOf at h
  split at h
  case h_2 => cases h
  rename_i j
  split at h
  · rename_i hg
    cases h
    exact ⟨.same, fun lo _ => by simp [aNextM, hg]⟩
  · rename_i mm since seen stepped hg
    split at h
    · rename_i es clock hm
      split at h
      case isFalse => cases h
      rename_i hc
      split at h
      · rename_i hcd
        cases h
        exact ⟨.same, fun lo hlo => by simp only [aNextM, hg, hm, hcd]; exact ⟨hlo, hc, by simp⟩⟩
      · rename_i e hcd
        cases h
        exact ⟨.set _ hg rfl, fun lo hlo => by simp only [aNextM, hg, hm, hcd]; exact ⟨hlo, hc, by simp⟩⟩
      · cases h
    · cases h
  · cases h

theorem Good.shp {N : Nat} {ops : Array Oper} {o : Oper} {rest : List Oper} {E : VT} {ds : List Nat} {H H1 : Heap} {n n1 m : Nat} {v : Value} {r : R} {wr : Option Nat} (hm : m ≤ n) (hs : Shp H n wr H1 n1)
    (h2 : Good P G Giv (.ops N ops rest (E.put o.dst v) ds) H1 n1 (minO m wr) r)
    (h : ∀ lo, lo ≤ minO m wr → ROps P G Giv lo N ops rest (E.fn.put o.dst v) H1 n1 (fun E' H' n' => E' = r.E.fn ∧ H' = r.H ∧ n' = r.n) → ROps P G Giv lo N ops (o :: rest) E.fn H n (fun E' H' n' => E' = r.E.fn ∧ H' = r.H ∧ n' = r.n)) :
    Good P G Giv (.ops N ops (o :: rest) E ds) H n m r :=
  good_ops_next (minO_le _ _) hs.grow (fun i hi => by
    have := minO_le m wr
    refine hs.frame (by omega) (fun e => ?_)
    have := minO_wr (m := m) e
    omega) hs.keep h2 h

theorem xCall_ok {x : XF} {g : FuncId} {args : Array Value} {H : Heap} {n : Nat} {v : Value} (hx : XOk P g x) (h : xCall P x args = some v) :
    ∃ fn, P.funcs[g]? = some fn ∧ fn.body = none ∧ (Extern.findNext fn).isNone = true ∧ aExt P fn args H n = some (v, H, n) := by
  unfold xCall at h
  split at h
  · obtain ⟨fn, h1, h2, h3, h4⟩ := hx
    refine ⟨fn, h1, h2, h3, ?_⟩
    split at h
    · rename_i z hz
      cases h
      simp only [aExt, h4, if_true, hz]
    · cases h
  · rename_i e
    obtain ⟨fn, h1, h2, h3, h4, h5⟩ := hx
    refine ⟨fn, h1, h2, h3, ?_⟩
    split at h
    case isFalse => cases h
    rename_i hr
    split at h
    case h_2 => cases h
    rename_i u hu
    split at h
    case isFalse => cases h
    rename_i hru
    cases h
    simp only [aExt, h4, Bool.false_eq_true, if_false, h5, hr, if_true, hu, hru]
  · cases h
theorem xMake_ok {x : XF} {g : FuncId} {args : Array Value} {H H' : Heap} {n n' : Nat} {v : Value} (hx : XOk P g x) (h : xMake x args H n = some (v, H', n')) :
    ((∃ fn, P.funcs[g]? = some fn ∧ fn.body = none ∧ (Extern.findNext fn).isNone = true ∧ aMnz P fn args H n = some (v, H', n')) ∧ Shp H n none H' n') ∧ n' = n + 1 := by
  unfold xMake at h
  split at h
  case h_2 => cases h
  rename_i e
  obtain ⟨fn, t, h1, h2, h3, h4, h5, h6⟩ := hx
  split at h
  case h_2 => cases h
  rename_i k hk
  split at h
  case isFalse => cases h
  rename_i hc
  cases h
  refine ⟨⟨⟨fn, h1, h2, h3, ?_⟩, .new _⟩, rfl⟩
  simp only [aMnz, h4, if_true, hk, h5, h6, if_pos hc]

theorem good_op (T : Tabs P G F X) (hrec : Fine P G Giv rec) {N : Nat} {ops : Array Oper} {o : Oper} {rest : List Oper} {E : VT} {ds : List Nat} {H : Heap} {n m : Nat} {r : R}
    (hd : Dom H n) (hh : H.hid = []) (hm : m ≤ n) (h : stepOp P G F X rec N ops o rest E ds H n m = some r) : Good P G Giv (.ops N ops (o :: rest) E ds) H n m r := by
  unfold stepOp at h
  split at h
  · rename_i hw
    have g := hrec _ _ _ _ _ hd hh hm h
    exact good_ops_next (Nat.le_refl _) .refl (fun _ _ => rfl) (.refl _ _) g (fun lo _ s => .unwanted hw s)
  rename_i hw
  split at h
  · rename_i f args tys ho
    split at h
    · rename_i g a b hf
      split at h
      · rename_i fn hfn
        have hfn := T.fn _ _ hfn
        split at h
        case h_2 => cases h
        rename_i c hb
        split at h
        case h_2 => cases h
        rename_i r1 h1
        have g1 := hrec _ _ _ _ _ hd hh hm h1
        have g2 := hrec _ _ _ _ _ (g1.grow.dom hd) g1.hid (g1.le hm) h
        refine g1.then g2 fun lo hl1 hl2 s1 s2 => ?_
        obtain ⟨e1, e2, s2⟩ := s2
        rw [VT.fn_put] at s2
        refine ⟨e1, e2, .call _ hw ho hf hfn hb s1 ?_⟩
        rintro v H' n' ⟨rfl, rfl, rfl⟩
        exact s2
      · split at h
        · rename_i v he
          obtain ⟨fn, hfn, hb, hx, he⟩ := xCall_ok (H := H) (n := n) (T.ext g) he
          have g := hrec _ _ _ _ _ hd hh hm h
          exact good_ops_next (Nat.le_refl _) .refl (fun _ _ => rfl) (.refl _ _) g (fun lo _ s => .ext hw ho hf hfn hb hx he s)
        · split at h
          case h_2 => cases h
          rename_i v H1 n1 he
          obtain ⟨⟨⟨fn, hfn, hb, hx, he⟩, hs⟩, _⟩ := xMake_ok (T.ext g) he
          rw [norm_eq (by rw [hs.hid]; exact hh)] at h
          have g := hrec _ _ _ _ _ (hs.grow.dom hd) (by rw [hs.hid]; exact hh) (by have := hs.grow.1; omega) h
          exact Good.shp (wr := none) hm hs g (fun lo _ s => .mnz hw ho hf hfn hb hx he s)
    · rename_i l a b hf
      split at h
      case h_2 => cases h
      rename_i ha hb
      have ea : a = #[] := by rw [← Array.toList_inj]; exact ha
      have eb : b = #[] := by rw [← Array.toList_inj]; exact hb
      subst ea eb
      exact good_yield hrec hd hh hm hw ho hf h
    · cases h
  · rename_i x ho
    split at h
    case h_2 => cases h
    rename_i v H1 i hn
    obtain ⟨hs, hn2⟩ := nextOf_spec (n := n) hn
    rw [norm_eq (by rw [hs.hid]; exact hh)] at h
    have g := hrec _ _ _ _ _ (hs.grow.dom hd) (by rw [hs.hid]; exact hh) (Nat.le_trans (Nat.min_le_left _ _) (Nat.le_trans hm hs.grow.1)) h
    refine Good.shp (wr := some i) hm hs g (fun lo hlo s => .next _ hw ho (hn2 lo (Nat.le_trans hlo (Nat.min_le_right _ _))) ?_)
    rintro v H' n' ⟨rfl, rfl, rfl⟩
    exact s
  · split at h
    case h_2 => cases h
    rename_i v H1 n1 ho
    have ho := eOp_ok ho
    obtain ⟨hs, hlo⟩ := w_op ho
    rw [norm_eq (by rw [hs.hid]; exact hh)] at h
    have g := hrec _ _ _ _ _ (hs.grow.dom hd) (by rw [hs.hid]; exact hh) (by have := minO_le m (wrOf o (ev E.fn)); have := hs.grow.1; omega) h
    exact Good.shp hm hs g (fun lo hl s => .op hw (hlo lo fun i e => Nat.le_trans hl (minO_wr e)) s)

end Go.AL
