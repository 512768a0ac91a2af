/- The evaluator is sound. -/
import Derived.Test.YtonhkjkdmfaodaaGreatDoorALEvalS4
set_option linter.unusedVariables false
set_option linter.unusedSimpArgs false
namespace Go.AL
open Go.RowKit

variable {P : Program} {G : Nat} {Giv : GivT} {F : FuncId → Option Func} {X : FuncId → XF} {rec : Eval}

/-! ### The plan of a region -/
theorem anc_fold {ops : Array Oper} {k : Nat} {o : Oper} {ms : List Nat} (ho : ops[k]? = some o) (hms : ∀ i j, (ms.getD i 0).testBit j = true → Anc ops j i) : ∀ (l : List Edge) (a : Nat), (∀ e ∈ l, e ∈ o.after) → (∀ j, a.testBit j = true → Anc ops j k) →
    ∀ j, (l.foldl (fun a e => if Region.binds .any e then (a ||| (1 <<< e.on)) ||| ms.getD e.on 0 else a) a).testBit j = true → Anc ops j k
  | [], a, _, ha, j, h => ha j h
  | e :: l, a, hl, ha, j, h => by
    rw [List.foldl_cons] at h
    refine anc_fold ho hms l _ (fun e' he => hl e' (by simp [he])) (fun j hj => ?_) j h
    split at hj
    · rename_i hb
      have he : Anc ops e.on k := .edge ho (hl e (by simp)) hb
      rw [Nat.testBit_or, Nat.testBit_or, Bool.or_eq_true, Bool.or_eq_true] at hj
      rcases hj with (hj | hj) | hj
      · exact ha j hj
      · rw [Nat.testBit_shiftLeft] at hj
        simp only [Bool.and_eq_true, decide_eq_true_eq, ge_iff_le] at hj
        have : j - e.on = 0 := by
          rcases Nat.eq_zero_or_pos (j - e.on) with h0 | h0
          · exact h0
          · rw [Nat.testBit_one_eq_true_iff_self_eq_zero] at hj; exact hj.2
        have : j = e.on := by omega
        subst this; exact he
      · exact .trans (hms _ _ hj) he
    · exact ha j hj

theorem masks_spec {ops : Array Oper} : ∀ (rest done : List Oper) (ms : List Nat), ops.toList = done ++ rest → ms.length = done.length → (∀ i j, (ms.getD i 0).testBit j = true → Anc ops j i) →
    ∀ i j, ((masksFrom rest ms).getD i 0).testBit j = true → Anc ops j i
  | [], _, ms, _, _, h => h
  | o :: rest, done, ms, he, hl, h => by
    refine masks_spec rest (done ++ [o]) (ms ++ [ancMask ms o]) (by rw [he]; simp) (by simp [hl]) (fun i j hj => ?_)
    rcases Nat.lt_trichotomy i ms.length with hi | hi | hi
    · rw [List.getD_eq_getElem?_getD, List.getElem?_append_left hi, ← List.getD_eq_getElem?_getD] at hj
      exact h i j hj
    · subst hi
      rw [List.getD_eq_getElem?_getD, List.getElem?_append_right (Nat.le_refl _)] at hj
      simp only [Nat.sub_self, List.getElem?_cons_zero, Option.getD_some] at hj
      have ho : ops[ms.length]? = some o := by
        rw [← Array.getElem?_toList, he, hl, List.getElem?_append_right (Nat.le_refl _)]; simp
      unfold ancMask at hj
      exact anc_fold ho h o.after.toList 0 (fun e he => by simpa using he) (fun j hj => by simp at hj) j hj
    · rw [List.getD_eq_getElem?_getD, List.getElem?_eq_none (by simp; omega)] at hj
      simp at hj

theorem edges_spec : ∀ (l : List Oper) (k : Nat), edgesOk l k = true → ∀ i o e, l[i]? = some o → e ∈ o.after → Region.binds .any e = true → e.on < k + i
  | [], _, _, i, o, e, h, _, _ => by simp at h
  | x :: l, k, h, i, o, e, ho, he, hb => by
    simp only [edgesOk, Bool.and_eq_true, List.all_eq_true] at h
    cases i with
    | zero =>
      simp only [List.getElem?_cons_zero, Option.some.injEq] at ho
      subst ho
      have := h.1 e (by simpa using he)
      simp only [hb, Bool.not_true, Bool.false_or, decide_eq_true_eq] at this
      omega
    | succ i =>
      have := edges_spec l (k + 1) h.2 i o e (by simpa using ho) he hb
      omega

structure PlanOk (ops : Array Oper) (us : List (List Nat)) : Prop where
  edges : ∀ (k : Nat) (o : Oper) (e : Edge), ops[k]? = some o → e ∈ o.after → Region.binds .any e = true → e.on < k
  nosel : Region.noSelect ops = true
  unord : ∀ (k : Nat) (u : List Nat), us[k]? = some u → ∀ j, j < k → Anc ops j k ∨ (j ∈ u ∧ ∀ oj ok, ops[j]? = some oj → ops[k]? = some ok → oj.apart ops ok = true)

theorem plan_spec {ops : Array Oper} {us : List (List Nat)} (h : plan ops = some us) : PlanOk ops us := by
  unfold plan planOf at h
  split at h
  case isFalse => cases h
  rename_i hc
  simp only [Bool.and_eq_true, List.all_eq_true] at hc
  obtain ⟨⟨h1, h2⟩, h3⟩ := hc
  cases h
  refine ⟨fun k o e ho he hb => ?_, h2, fun k u hu j hj => ?_⟩
  · have := edges_spec _ 0 h1 k o e (by rw [Array.getElem?_toList]; exact ho) he hb
    omega
  · rw [List.getElem?_map, Option.map_eq_some_iff] at hu
    obtain ⟨k', hk', rfl⟩ := hu
    obtain ⟨hlt, hk2⟩ := List.getElem?_eq_some_iff.1 hk'
    simp at hlt hk2
    subst hk2
    by_cases hb : ((masksFrom ops.toList []).getD k 0).testBit j = true
    · exact .inl (masks_spec ops.toList [] [] rfl rfl (fun i j h => by simp at h) k j hb)
    · have hm : j ∈ unordAt (masksFrom ops.toList []) k := by
        simp only [unordAt, List.mem_filter, List.mem_range]
        exact ⟨hj, by simpa using hb⟩
      refine .inr ⟨hm, fun oj ok e1 e2 => ?_⟩
      have := h3 k (by simpa using hlt)
      simp only [apartAt, List.all_eq_true] at this
      have := this j hm
      simpa [e1, e2] using this

/-! ### From a chain to a Draw -/
theorem Chain.len {lo : Nat} {ops : Array Oper} {fin : Snap} : ∀ {us : List (List Nat)} {rest : List Oper} {recs : List Rec} {L : List Snap}, Chain P G Giv lo ops fin us rest recs L → L.length = rest.length
  | _, [], _, [], _ => rfl
  | u :: us, o :: rest, recs, s :: L, h => by
    simp only [Chain] at h
    simp [Chain.len h.2.2]
  | _, [], _, _ :: _, h => by simp [Chain] at h
  | [], _ :: _, _, _, h => by simp [Chain] at h
  | _ :: _, _ :: _, _, [], h => by simp [Chain] at h
theorem Chain.at {lo : Nat} {ops : Array Oper} {fin : Snap} : ∀ {us : List (List Nat)} {rest : List Oper} {recs : List Rec} {L : List Snap}, Chain P G Giv lo ops fin us rest recs L →
    ∀ i s, L[i]? = some s → ∃ o u, rest[i]? = some o ∧ us[i]? = some u ∧ OpOk P G Giv lo ops o s ((L[i + 1]?).getD fin) ∧ (s.rc.triv ∨ pairs (recs ++ (L.take i).map (·.rc)) u s.rc = true)
  | _, [], _, [], _, i, s, hs => by simp at hs
  | u :: us, o :: rest, recs, x :: L, h, i, s, hs => by
    simp only [Chain] at h
    cases i with
    | zero =>
      simp only [List.getElem?_cons_zero, Option.some.injEq] at hs
      subst hs
      refine ⟨o, u, rfl, rfl, ?_, ?_⟩
      · have := h.1
        cases L with
        | nil => simpa using this
        | cons y L => simpa using this
      · simpa using h.2.1
    | succ i =>
      obtain ⟨o', u', h1, h2, h3, h4⟩ := Chain.at h.2.2 i s (by simpa using hs)
      refine ⟨o', u', by simpa using h1, by simpa using h2, by simpa using h3, ?_⟩
      simpa using h4
  | _, [], _, _ :: _, h, _, _, _ => by simp [Chain] at h
  | [], _ :: _, _, _, h, _, _, _ => by simp [Chain] at h
  | _ :: _, _ :: _, _, [], h, _, _, _ => by simp [Chain] at h

theorem run_draw {top : Bool} {lo N : Nat} {id : Nat} {ops : Array Oper} {us : List (List Nat)} {E : VT} {ds : List Nat} {H : Heap} {n : Nat} {r : R} (hp : PlanOk ops us)
    (h : TSem P G Giv lo (.draw ops us ops.toList [] E ds) H n r) : Run P G Giv top lo N (.region id ops true) E.fn ds H n (exactQ r) := by
  obtain ⟨e1, e2, L, fin, f1, f2, f3, f4, f5, f6, hc⟩ := h
  have hlen : L.length = ops.size := by rw [hc.len]; simp
  let S : Nat → Snap := fun j => (L[j]?).getD fin
  have hS : ∀ k, k < ops.size → L[k]? = some (S k) := by
    intro k hk
    have : k < L.length := by omega
    simp [S, this]
  have hS0 : S 0 = L.headD fin := by cases L <;> rfl
  have hSe : S ops.size = fin := by simp [S, hlen]
  have hat : ∀ k o, ops[k]? = some o → ∃ u, us[k]? = some u ∧ OpOk P G Giv lo ops o (S k) (S (k + 1)) ∧ ((S k).rc.triv ∨ pairs ((L.take k).map (·.rc)) u (S k).rc = true) := by
    intro k o ho
    have hk : k < ops.size := (Array.getElem?_eq_some_iff.1 ho).1
    obtain ⟨o', u, h1, h2, h3, h4⟩ := hc.at k (S k) (hS k hk)
    rw [Array.getElem?_toList, ho] at h1
    cases h1
    exact ⟨u, h2, h3, by simpa using h4⟩
  have hget : ∀ k, k < ops.size → ∃ o, ops[k]? = some o := fun k hk => ⟨ops[k], by simp [hk]⟩
  have hok : ∀ k o, ops[k]? = some o → OpOk P G Giv lo ops o (S k) (S (k + 1)) := fun k o ho => by obtain ⟨u, _, h, _⟩ := hat k o ho; exact h
  let d : Draw := { E := fun j => (S j).E.fn, H := fun j => (S j).H, n := fun j => (S j).n, v := fun j => (S j).v, Vw := fun j => (S j).Vw, V := fun j => (S j).V, vis := fun j i => j < ops.size ∧ visR (S j).rc i, wr := fun j i => j < ops.size ∧ wrR (S j).rc i, lo := fun j => (S j).rc.lo, ext := fun j => (S j).ext }
  have hwv : ∀ k i, wrR (S k).rc i → visR (S k).rc i := fun k i h => by
    simp only [wrR, wrB, Bool.and_eq_true] at h; exact h.1
  have hwl : ∀ k i, wrR (S k).rc i → (S k).rc.lo ≤ i := fun k i h => by
    simp only [wrR, wrB, Bool.and_eq_true, decide_eq_true_eq] at h; exact h.2
  have hd : DrawOk P lo ops E.fn H n d := by
    refine ⟨?_, ?_, ?_, hp.edges, ?_, ?_, ?_, ?_, ?_, ?_, ?_, ?_, ?_, ?_, ?_, ?_, hp.nosel, ?_, ?_, ?_⟩
    · show (S 0).E.fn = E.fn; rw [hS0, f4]
    · show (S 0).H = H; rw [hS0, f5]
    · show (S 0).n = n; rw [hS0, f6]
    · intro k hk; obtain ⟨o, ho⟩ := hget k hk; exact (hok k o ho).le
    · intro k o ho; exact (hok k o ho).env
    · intro k i b hk hb
      obtain ⟨o, ho⟩ := hget k hk
      have := (hok k o ho).view i b hb
      exact ⟨this.1, hk, this.2⟩
    · intro k hk; obtain ⟨o, ho⟩ := hget k hk; exact (hok k o ho).low
    · rintro k i hk h1 h2 ⟨_, h3⟩
      refine ⟨hk, ?_⟩
      simp only [wrR, wrB, Bool.and_eq_true, decide_eq_true_eq]
      exact ⟨h3, h1⟩
    · rintro k i ⟨hk, h⟩; exact ⟨hk, hwv k i h⟩
    · rintro k i ⟨hk, h⟩; exact hwl k i h
    · rintro k i ⟨hk, h⟩
      obtain ⟨o, ho⟩ := hget k hk
      exact (hok k o ho).vlt i (hwv k i h)
    · intro k i hk hi hn
      obtain ⟨o, ho⟩ := hget k hk
      exact (hok k o ho).keepH i hi (fun h => hn ⟨hk, h⟩)
    · intro k i b hk h hb
      obtain ⟨o, ho⟩ := hget k hk
      exact (hok k o ho).newH i b (h.imp (fun h => h.2) (fun h => h)) hb
    · intro j k oj ok hjk hoj hok'
      have hj : j < ops.size := (Array.getElem?_eq_some_iff.1 hoj).1
      have hk : k < ops.size := (Array.getElem?_eq_some_iff.1 hok').1
      obtain ⟨u, hu, hop, hpr⟩ := hat k ok hok'
      rcases hp.unord k u hu j hjk with h1 | ⟨h1, h2⟩
      · exact .inl h1
      · refine .inr ⟨h2 oj ok hoj hok', ?_⟩
        have hn0 : (S j).rc.n0 = (S j).n := (hok j oj hoj).n0
        have hn1 : (S j).rc.n1 = (S (j + 1)).n := (hok j oj hoj).n1
        rcases hpr with h3 | h3
        · exact ⟨fun i _ _ h => h3.1 i h.2, fun i _ h => h3.1 i h.2, fun i h => absurd (hwv k i h.2) (h3.1 i)⟩
        · simp only [pairs, List.all_eq_true] at h3
          have h4 := h3 j h1
          have hjl : ((L.take k).map (·.rc))[j]? = some (S j).rc := by
            rw [List.getElem?_map, List.getElem?_take, if_pos hjk, hS j hj]; rfl
          rw [hjl] at h4
          obtain ⟨g1, g2, g3⟩ := pairB_spec h4
          exact ⟨fun i ha hb h => g1 i (by rw [hn0]; exact ha) (by rw [hn1]; exact hb) h.2, fun i h h' => g2 i h.2 h'.2, fun i h h' => g3 i h.2 h'.2⟩
    · intro k i b hk hb
      obtain ⟨o, ho⟩ := hget k hk
      exact (hok k o ho).newlt i b hb
    · intro k o ho hw
      obtain ⟨h1, h2, h3⟩ := (hok k o ho).unw hw
      exact ⟨h1, h2, fun i h => h3 i h.2⟩
    · intro k o ho hw hne; exact (hok k o ho).prim hw hne
    · intro k o f args tys ho hw he; exact (hok k o ho).callf f args tys hw he
  refine .regionD d hd ?_ ?_
  · intro k o f args tys g a b ho hw he hx hf
    exact (hok k o ho).hc f args tys g a b hw he hx hf
  · refine ⟨e1.symm, ?_, e2.symm, ?_, ?_⟩
    · show (S ops.size).E.fn = _; rw [hSe, f1]
    · show (S ops.size).H = _; rw [hSe, f2]
    · show (S ops.size).n = _; rw [hSe, f3]

theorem fine_step (T : Tabs P G F X) (hrec : Fine P G Giv rec) : Fine P G Giv (step P G F X rec) := by
  intro t H n m r hd hh hm h
  cases t with
  | code top N c E ds =>
    simp only [step] at h
    cases c with
    | rangeFunc f ps asg body =>
      cases top with
      | true => exact good_range T hrec hd hh hm h
      | false => cases h
    | region id ops draw =>
      cases draw with
      | false => exact good_code_simple hrec hd hh hm (by simp) (by simp) h
      | true =>
        simp only [stepCode] at h
        split at h
        case h_2 => cases h
        rename_i us hus
        exact (hrec _ _ _ _ _ hd hh hm h).as rfl rfl rfl fun lo _ s => run_draw (plan_spec hus) s
    | _ => exact good_code_simple hrec hd hh hm (by simp) (by simp) h
  | ops N ops rest E ds =>
    simp only [step] at h
    cases rest with
    | nil => cases h; exact ⟨hh, Nat.le_refl _, .refl, fun _ _ => rfl, .refl _ _, fun lo _ => ⟨rfl, rfl, .nil ⟨rfl, rfl, rfl⟩⟩⟩
    | cons o rest => exact good_op T hrec hd hh hm h
  | draw ops us rest recs E ds =>
    simp only [step] at h
    cases rest with
    | nil =>
      simp only at h
      cases h
      refine ⟨hh, Nat.le_refl _, .refl, fun _ _ => rfl, .refl _ _, fun lo _ => ⟨rfl, rfl, [], ⟨E, H, n, undef, H, H, ⟨false, [], [], n, n, n⟩, false⟩, rfl, rfl, rfl, rfl, rfl, rfl, ?_⟩⟩
      cases us <;> simp [Chain]
    | cons o rest =>
      cases us with
      | nil => simp only at h; cases h
      | cons u us => exact good_draw T hrec hd hh hm h
  | call f args => exact good_call T hrec hd hh hm h

theorem eval_good (T : Tabs P G F X) : ∀ k, Fine P G Giv (eval P G F X k)
  | 0 => fun _ _ _ _ _ _ _ _ h => by cases h
  | k + 1 => fine_step T (eval_good T k)

/-- What the evaluator shows of a call. -/
theorem eval_call (T : Tabs P G F X) {k : Nat} {f : FuncId} {args : Array Value} {H : Heap} {n m lo : Nat} {r : R} (hd : Dom H n) (hh : H.hid = []) (hm : m ≤ n) (h : eval P G F X k (.call f args) H n m = some r) (hlo : lo ≤ r.m) :
    RCall P G Giv lo f args H n (fun v H' n' => v = r.v ∧ H' = r.H ∧ n' = r.n) :=
  (eval_good T k _ _ _ _ _ hd hh hm h).sem lo hlo

end Go.AL
