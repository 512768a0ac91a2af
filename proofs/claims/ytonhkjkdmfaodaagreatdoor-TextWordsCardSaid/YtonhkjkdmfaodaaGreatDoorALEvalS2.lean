/- The evaluator is sound: code. -/
import Derived.Test.YtonhkjkdmfaodaaGreatDoorALEvalS
set_option linter.unusedVariables false
set_option linter.unusedSimpArgs false
namespace Go.AL
open Go.RowKit

variable {P : Program} {G : Nat} {Giv : GivT} {F : FuncId → Option Func} {X : FuncId → XF} {rec : Eval}

theorem Good.leaf {top : Bool} {N : Nat} {c : Code} {E : VT} {ds : List Nat} {H : Heap} {n m : Nat} {x : XX} (hd : H.hid = []) (h : ∀ lo, Run P G Giv top lo N c E.fn ds H n (exactQ ⟨x, undef, E, ds, H, n, m⟩)) :
    Good P G Giv (.code top N c E ds) H n m ⟨x, undef, E, ds, H, n, m⟩ :=
  ⟨hd, Nat.le_refl _, .refl, fun _ _ => rfl, .refl _ _, fun lo _ => h lo⟩

/-- Two tasks, one behind the other. -/
theorem Good.then {t t1 t2 : Task} {H : Heap} {n m : Nat} {r1 r2 : R} (h1 : Good P G Giv t1 H n m r1) (h2 : Good P G Giv t2 r1.H r1.n r1.m r2)
    (hs : ∀ lo, lo ≤ r1.m → lo ≤ r2.m → TSem P G Giv lo t1 H n r1 → TSem P G Giv lo t2 r1.H r1.n r2 → TSem P G Giv lo t H n r2) : Good P G Giv t H n m r2 where
  hid := h2.hid
  mle := Nat.le_trans h2.mle h1.mle
  grow := h1.grow.trans h2.grow
  frame i hi := (h2.frame i hi).trans (h1.frame i (Nat.lt_of_lt_of_le hi h2.mle))
  loop := h1.loop.trans h2.loop h1.grow.1
  sem lo hlo := hs lo (Nat.le_trans hlo h2.mle) hlo (h1.sem lo (Nat.le_trans hlo h2.mle)) (h2.sem lo hlo)

theorem Good.as {t t1 : Task} {H : Heap} {n m : Nat} {r1 r2 : R} (h1 : Good P G Giv t1 H n m r1) (eH : r2.H = r1.H) (en : r2.n = r1.n) (em : r2.m = r1.m)
    (hs : ∀ lo, lo ≤ r1.m → TSem P G Giv lo t1 H n r1 → TSem P G Giv lo t H n r2) : Good P G Giv t H n m r2 where
  hid := by rw [eH]; exact h1.hid
  mle := by rw [em]; exact h1.mle
  grow := by rw [eH, en]; exact h1.grow
  frame i hi := by rw [eH]; exact h1.frame i (by rw [← em]; exact hi)
  loop := by rw [eH]; exact h1.loop
  sem lo hlo := hs lo (by rw [← em]; exact hlo) (h1.sem lo (by rw [← em]; exact hlo))

/-- One step of the heap, and a task behind it. -/
theorem Good.after {t t2 : Task} {H H1 : Heap} {n n1 m m1 : Nat} {r : R} (h1 : m1 ≤ m) (hg : Grow H n H1 n1) (hf : ∀ i, i < m1 → H1.get i = H.get i) (hk : LoopKeep n H H1) (h2 : Good P G Giv t2 H1 n1 m1 r)
    (hs : ∀ lo, lo ≤ r.m → lo ≤ m1 → TSem P G Giv lo t2 H1 n1 r → TSem P G Giv lo t H n r) : Good P G Giv t H n m r where
  hid := h2.hid
  mle := Nat.le_trans h2.mle h1
  grow := hg.trans h2.grow
  frame i hi := (h2.frame i hi).trans (hf i (Nat.lt_of_lt_of_le hi h2.mle))
  loop := hk.trans h2.loop hg.1
  sem lo hlo := hs lo hlo (Nat.le_trans hlo h2.mle) (h2.sem lo hlo)

theorem Good.le {t : Task} {H : Heap} {n m : Nat} {r : R} (h : Good P G Giv t H n m r) (hm : m ≤ n) : r.m ≤ r.n := Nat.le_trans h.mle (Nat.le_trans hm h.grow.1)

theorem TSem.code {top : Bool} {lo N : Nat} {c : Code} {E : VT} {ds : List Nat} {H : Heap} {n : Nat} {r : R} (h : TSem P G Giv lo (.code top N c E ds) H n r) : Run P G Giv top lo N c E.fn ds H n (exactQ r) := h

theorem wp_any {top : Bool} {lo N : Nat} {c : Code} {E : Env} {ds : List Nat} {H : Heap} {n : Nat} {Q Q' : Post} (h : Q = Q') (h1 : Run P G Giv top lo N c E ds H n Q) : Run P G Giv top lo N c E ds H n Q' := h ▸ h1

theorem good_code_simple (hrec : Fine P G Giv rec) {top : Bool} {N : Nat} {c : Code} {E : VT} {ds : List Nat} {H : Heap} {n m : Nat} {r : R} (hd : Dom H n) (hh : H.hid = []) (hm : m ≤ n)
    (hc : ∀ f ps asg body, c ≠ .rangeFunc f ps asg body) (hc2 : ∀ id ops, c ≠ .region id ops true)
    (h : stepCode F rec top N c E ds H n m = some r) : Good P G Giv (.code top N c E ds) H n m r := by
  cases c with
  | skip => cases h; exact .leaf hh fun lo => .skip ⟨rfl, rfl, rfl, rfl, rfl⟩
  | label l => cases h; exact .leaf hh fun lo => .label ⟨rfl, rfl, rfl, rfl, rfl⟩
  | exit id => cases h; exact .leaf hh fun lo => .exit ⟨rfl, rfl, rfl, rfl, rfl⟩
  | ret => cases h; exact .leaf hh fun lo => .ret ⟨rfl, rfl, rfl, rfl, rfl⟩
  | seq a b =>
    simp only [stepCode] at h
    split at h
    case h_2 => cases h
    rename_i r1 h1
    have g1 := hrec _ _ _ _ _ hd hh hm h1
    split at h
    · rename_i hx
      have g2 := hrec _ _ _ _ _ (g1.grow.dom hd) g1.hid (g1.le hm) h
      refine g1.then g2 fun lo _ _ s1 s2 => ?_
      refine .seq (exactQ r1) s1 ?_ ?_
      · rintro E' ds' H' n' ⟨_, rfl, rfl, rfl, rfl⟩
        exact s2
      · rintro x E' ds' H' n' hne ⟨rfl, _⟩
        exact absurd hx hne
    · rename_i hx
      cases h
      refine g1.as rfl rfl rfl fun lo _ s1 => ?_
      refine .seq (exactQ _) s1 ?_ ?_
      · rintro E' ds' H' n' ⟨e, _⟩
        exact absurd e.symm hx
      · exact fun x E' ds' H' n' _ h => h
  | cond c a b =>
    simp only [stepCode] at h
    split at h
    · rename_i hb
      exact (hrec _ _ _ _ _ hd hh hm h).as rfl rfl rfl fun lo _ s => .thn hb s
    · rename_i hb
      exact (hrec _ _ _ _ _ hd hh hm h).as rfl rfl rfl fun lo _ s => .els hb s
    · cases h
  | block id b =>
    simp only [stepCode] at h
    split at h
    case h_2 => cases h
    rename_i r1 h1
    have g1 := hrec _ _ _ _ _ hd hh hm h1
    split at h
    · rename_i j hx
      split at h
      · rename_i hj
        subst hj
        cases h
        refine g1.as rfl rfl rfl fun lo _ s1 => ?_
        refine .block (exactQ _) s1 ?_ ?_ ?_ ?_
        · rintro E' ds' H' n' ⟨e, _⟩; rw [hx] at e; cases e
        · rintro E' ds' H' n' ⟨e, e1, e2, e3, e4⟩; exact ⟨rfl, e1, e2, e3, e4⟩
        · rintro k E' ds' H' n' hk ⟨e, _⟩; rw [hx] at e; cases e; exact absurd rfl hk
        · rintro E' ds' H' n' ⟨e, _⟩; rw [hx] at e; cases e
      · rename_i hj
        cases h
        refine g1.as rfl rfl rfl fun lo _ s1 => ?_
        refine .block (exactQ _) s1 ?_ ?_ ?_ ?_
        · rintro E' ds' H' n' ⟨e, _⟩; rw [hx] at e; cases e
        · rintro E' ds' H' n' ⟨e, _⟩; rw [hx] at e; cases e; exact absurd rfl hj
        · exact fun k E' ds' H' n' hk h => h
        · exact fun E' ds' H' n' h => h
    · rename_i hx
      cases h
      refine g1.as rfl rfl rfl fun lo _ s1 => ?_
      refine .block (exactQ _) s1 ?_ ?_ ?_ ?_
      · exact fun E' ds' H' n' h => h
      · rintro E' ds' H' n' ⟨e, _⟩; exact absurd e.symm (hx _)
      · exact fun k E' ds' H' n' hk h => h
      · exact fun E' ds' H' n' h => h
  | loop b =>
    simp only [stepCode] at h
    split at h
    case h_2 => cases h
    rename_i r1 h1
    have g1 := hrec _ _ _ _ _ hd hh hm h1
    split at h
    · rename_i hx
      have g2 := hrec _ _ _ _ _ (g1.grow.dom hd) g1.hid (g1.le hm) h
      refine g1.then g2 fun lo _ _ s1 s2 => ?_
      refine .loop (exactQ r1) s1 ?_ ?_
      · rintro E' ds' H' n' ⟨_, rfl, rfl, rfl, rfl⟩
        exact s2
      · rintro x E' ds' H' n' hne ⟨rfl, _⟩
        exact absurd hx hne
    · rename_i hx
      cases h
      refine g1.as rfl rfl rfl fun lo _ s1 => ?_
      refine .loop (exactQ _) s1 ?_ ?_
      · rintro E' ds' H' n' ⟨e, _⟩
        exact absurd e.symm hx
      · exact fun x E' ds' H' n' _ h => h
  | region id ops draw =>
    cases draw with
    | true => exact absurd rfl (hc2 _ _)
    | false =>
      simp only [stepCode] at h
      refine (hrec _ _ _ _ _ hd hh hm h).as rfl rfl rfl fun lo _ s => ?_
      obtain ⟨e1, e2, s⟩ := s
      refine .region ?_
      have : (fun (E' : Env) (H' : Heap) (n' : Nat) => E' = r.E.fn ∧ H' = r.H ∧ n' = r.n) = (fun E' H' n' => exactQ r .normal E' ds H' n') := by
        funext E' H' n'
        simp [exactQ, e1, e2]
      rw [this] at s
      exact s
  | rangeFunc f ps asg body => exact absurd rfl (hc _ _ _ _)
  | scope b => exact (hrec _ _ _ _ _ hd hh hm h).as rfl rfl rfl fun lo _ s => .scope s
  | goto l => cases h
  | refuse w => cases h

theorem good_range (T : Tabs P G F X) (hrec : Fine P G Giv rec) {N : Nat} {f : Operand} {ps : Array Tmp} {asg body : Code} {E : VT} {ds : List Nat} {H : Heap} {n m : Nat} {r : R} (hd : Dom H n) (hh : H.hid = []) (hm : m ≤ n)
    (h : stepRange F rec N f ps asg body E ds H n m = some r) : Good P G Giv (.code true N (.rangeFunc f ps asg body) E ds) H n m r := by
  unfold stepRange at h
  split at h
  case h_2 => cases h
  rename_i g a b hf
  split at h
  case h_2 => cases h
  rename_i fn hfn
  have hfn := T.fn _ _ hfn
  split at h
  case h_2 => cases h
  rename_i c hb
  split at h
  case h_2 => cases h
  rename_i r1 h1
  split at h
  case h_2 => cases h
  rename_i El ps' asg' body' st pend hl
  rw [norm_eq (by exact hh)] at h1
  have hg : Grow H n ((H.upd n (some .dfr)).upd (n + 1) (some (.loop (tmpsOf E.fn N) ps asg body .ready none))) (n + 2) := (Grow.new _).trans (Grow.new _)
  have hh2 : ((H.upd n (some .dfr)).upd (n + 1) (some (.loop (tmpsOf E.fn N) ps asg body .ready none))).hid = [] := hh
  have g1 := hrec _ _ _ _ _ (hg.dom hd) hh2 (by omega) h1
  rw [norm_eq (by exact g1.hid)] at h
  obtain ⟨st2, pend2, hl2, _⟩ := g1.loop (n + 1) (tmpsOf E.fn N) ps asg body .ready none (by omega) (by rw [Heap.get_upd0 (H := H.upd n (some .dfr)) hh, if_pos rfl])
  rw [hl] at hl2
  cases hl2
  have key : ∀ x, xxOf pend = some x → st ≠ .busy → Good P G Giv (.code true N (.rangeFunc f ps asg body) E ds) H n m ⟨x, undef, E, n :: ds, r1.H.upd (n + 1) none, r1.n, r1.m⟩ := by
    intro x hx hst
    have hle := g1.grow.1
    refine ⟨g1.hid, g1.mle, hg.trans (g1.grow.trans (Grow.kill _)), fun i hi => ?_, ?_, fun lo hlo => ?_⟩
    · simp only at hi
      have := g1.mle
      show (r1.H.upd (n + 1) none).get i = H.get i
      rw [Heap.get_upd_ne _ _ (by omega), g1.frame i hi, Heap.get_upd_ne _ _ (by omega), Heap.get_upd_ne _ _ (by omega)]
    · intro i El' ps' asg' body' st' pend' hi hb'
      have h3 := g1.loop i El' ps' asg' body' st' pend' (by omega) (by rw [Heap.get_upd_ne _ _ (by omega), Heap.get_upd_ne _ _ (by omega)]; exact hb')
      show ∃ st'' pend'', (r1.H.upd (n + 1) none).get i = _ ∧ _
      rw [Heap.get_upd_ne _ _ (by omega)]
      exact h3
    · have hlo' : lo ≤ r1.m := hlo
      have hml := g1.mle
      refine .rangeFunc _ hf (by omega) hfn hb (g1.sem lo hlo') ?_
      rintro v H' n' ⟨rfl, rfl, rfl⟩
      exact ⟨_, st, pend, x, hl, hst, hx, rfl, rfl, rfl, rfl, rfl⟩
  cases st with
  | busy => cases h
  | ready =>
    simp only at h
    split at h
    · rename_i x hx; cases h; exact key x hx (by simp)
    · cases h
  | done =>
    simp only at h
    split at h
    · rename_i x hx; cases h; exact key x hx (by simp)
    · cases h
  | exhausted =>
    simp only at h
    split at h
    · rename_i x hx; cases h; exact key x hx (by simp)
    · cases h

theorem good_call (T : Tabs P G F X) (hrec : Fine P G Giv rec) {f : FuncId} {args : Array Value} {H : Heap} {n m : Nat} {r : R} (hd : Dom H n) (hh : H.hid = []) (hm : m ≤ n)
    (h : stepCall P F rec f args H n m = some r) : Good P G Giv (.call f args) H n m r := by
  unfold stepCall at h
  split at h
  case h_2 => cases h
  rename_i fn hfn
  split at h
  case h_2 => cases h
  rename_i c hb
  have hok := T.ok _ _ _ hfn hb
  have hfn := T.fn _ _ hfn
  split at h
  case h_2 => cases h
  rename_i hsz
  have hsz := Nat.le_of_ble_eq_true hsz
  split at h
  case h_2 => cases h
  rename_i r1 h1
  have g1 := hrec _ _ _ _ _ hd hh hm h1
  have key : (r1.x = .normal ∨ r1.x = .ret) → dfrs r1.H r1.ds = true → ∀ vs, resL P r1.E.fn (killAll r1.ds r1.H) fn.results.toList = some vs →
      Good P G Giv (.call f args) H n m ⟨.normal, retV vs, .nil, [], killAll r1.ds r1.H, r1.n, minL r1.m r1.ds⟩ := by
    intro hx hdf vs hvs
    have kill : ∀ (l : List Nat) (K : Heap), K.hid = [] → dfrs K l = true → (killAll l K).hid = [] ∧ Grow K r1.n (killAll l K) r1.n ∧ (∀ i, (∀ j ∈ l, i < j) → (killAll l K).get i = K.get i) ∧ LoopKeep r1.n K (killAll l K) := by
      intro l
      induction l with
      | nil => intro K hK _; exact ⟨hK, .refl, fun _ _ => rfl, .refl _ _⟩
      | cons i l ih =>
        intro K hK hdf
        simp only [dfrs, Bool.and_eq_true] at hdf
        obtain ⟨k1, k2, k3, k4⟩ := ih (K.upd i none) hK hdf.2
        refine ⟨k1, (Grow.kill i).trans k2, fun j hj => ?_, ?_⟩
        · show (killAll l (K.upd i none)).get j = _
          rw [k3 j (fun q hq => hj q (by simp [hq])), Heap.get_upd_ne _ _ (Nat.ne_of_lt (hj i (by simp)))]
        · refine LoopKeep.trans (LoopKeep.same fun j hj ⟨_, _, _, _, _, _, hb'⟩ => ?_) k4 (Nat.le_refl _)
          refine Heap.get_upd_ne _ _ (fun e => ?_)
          subst e
          have := hdf.1
          rw [hb'] at this
          cases this
    obtain ⟨k1, k2, k3, k4⟩ := kill r1.ds r1.H g1.hid hdf
    obtain ⟨m1, m2⟩ := minL_le r1.ds r1.m
    refine ⟨k1, Nat.le_trans m1 g1.mle, g1.grow.trans k2, fun i hi => ?_, g1.loop.trans k4 g1.grow.1, fun lo hlo => ?_⟩
    · have hi' : i < minL r1.m r1.ds := hi
      exact (k3 i (fun j hj => Nat.lt_of_lt_of_le hi' (m2 j hj))).trans (g1.frame i (Nat.lt_of_lt_of_le hi' m1))
    · have hlo' : lo ≤ minL r1.m r1.ds := hlo
      have s := g1.sem lo (Nat.le_trans hlo' m1)
      simp only [TSem, VT.fn_ofA] at s
      refine .mk (exactQ r1) hfn hb hok hsz s ?_
      rintro x E' ds' H' n' ⟨rfl, rfl, rfl, rfl, rfl⟩
      exact ⟨hx, hdf, fun i hi => Nat.le_trans hlo' (m2 i hi), vs, hvs, rfl, rfl, rfl⟩
  split at h
  · cases h
  rename_i hx
  split at h
  case h_2 => cases h
  rename_i hdf
  split at h
  case h_2 => cases h
  rename_i vs hvs
  cases h
  refine key ?_ hdf vs hvs
  cases hx' : r1.x with
  | normal => exact .inl rfl
  | ret => exact .inr rfl
  | exit id => exact absurd hx' (hx id)

end Go.AL
