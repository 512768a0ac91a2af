/- Each operation of the abstract machine is the model's: maps gone through, conversions, comparisons; all of them. -/
import Derived.Test.YtonhkjkdmfaodaaGreatDoorALOps8
set_option linter.unusedVariables false
set_option linter.unusedSimpArgs false
namespace Go.AL
open Go.RowKit

variable {P : Program} {G lo : Nat} {σ : Nat → Loc} {H H' : Heap} {n n' : Nat} {w : World}

/-- What may come next, of a map that is gone through. -/
def aNextM (lo : Nat) (x : Value) (H : Heap) (n : Nat) (K : Value → Heap → Nat → Prop) : Prop :=
  match x with
  | .pointer (some ⟨i, 0, none⟩) => match H.get i with
    | some (.mit none _ _ _) => K (.tuple #[.bool false]) H n
    | some (.mit (some m) since seen stepped) => match H.get m with
      | some (.map es clock) => lo ≤ i ∧ (seen.isEmpty || es.isEmpty || !(es.all fun e => decide (stepped ≤ e.born))) = true ∧
        ∀ c ∈ cands es since seen, match c with
          | none => K (.tuple #[.bool false]) H n
          | some e => K (.tuple #[.bool true, e.key, e.val]) (H.upd i (some (.mit (some m) since (seen ++ [e.born]) clock))) n
      | _ => False
    | _ => False
  | _ => False

theorem filter_rel {es : List MapEntry} {cs : List MapEntry} (h : ERs σ n es cs) (p : Nat → Bool) : ERs σ n (es.filter fun e => p e.born) (cs.filter fun e => p e.born) := by
  induction es generalizing cs with
  | nil =>
    have : cs = [] := List.eq_nil_of_length_eq_zero h.1
    subst this
    exact ⟨rfl, by simp⟩
  | cons e es ih =>
    cases cs with
    | nil => simp [ERs] at h
    | cons c cs =>
      have he := h.2 0 e c rfl rfl
      have := ih (cs := cs) ⟨by have := h.1; simpa using this, fun k e' c' h3 h4 => h.2 (k + 1) e' c' (by simpa using h3) (by simpa using h4)⟩
      simp only [List.filter_cons, he.born]
      cases p c.born with
      | false => simpa using this
      | true =>
        simp only [if_true]
        refine ⟨by simp [this.1], fun k e' c' h3 h4 => ?_⟩
        rcases k with _ | k
        · simp at h3 h4; subst h3 h4; exact he
        · exact this.2 k e' c' (by simpa using h3) (by simpa using h4)
theorem ERs.append {es cs es2 cs2 : List MapEntry} (h : ERs σ n es cs) (h2 : ERs σ n es2 cs2) : ERs σ n (es ++ es2) (cs ++ cs2) := by
  refine ⟨by simp [h.1, h2.1], fun k e c h3 h4 => ?_⟩
  rcases Nat.lt_or_ge k es.length with hk | hk
  · rw [List.getElem?_append_left hk] at h3
    rw [List.getElem?_append_left (by rw [h.1]; exact hk)] at h4
    exact h.2 k e c h3 h4
  · rw [List.getElem?_append_right hk] at h3
    rw [List.getElem?_append_right (by rw [h.1]; exact hk), h.1] at h4
    exact h2.2 _ e c h3 h4

theorem ERs.all_born {es cs : List MapEntry} (h : ERs σ n es cs) (p : Nat → Bool) : (cs.all fun e => p e.born) = (es.all fun e => p e.born) := by
  induction es generalizing cs with
  | nil =>
    have : cs = [] := List.eq_nil_of_length_eq_zero h.1
    subst this
    rfl
  | cons e es ih =>
    cases cs with
    | nil => simp [ERs] at h
    | cons c cs =>
      have he := h.2 0 e c rfl rfl
      have := ih (cs := cs) ⟨by have := h.1; simpa using this, fun k e' c' h3 h4 => h.2 (k + 1) e' c' (by simpa using h3) (by simpa using h4)⟩
      simp only [List.all_cons, he.born, this]

theorem nextM_snd (hR : Rel G σ H n w) {ty : TypeId} {x x' : Value} {K : Value → Heap → Nat → Prop} (hx : VR σ n x x') (h : aNextM lo x H n K) : ∃ v H' n', K v H' n' ∧ Snd P G lo σ H n w (Instr.next x' false ty) v H' n' := by
  unfold aNextM at h
  split at h
  case h_2 => cases h
  rename_i i
  obtain ⟨hi, rfl⟩ := hx.ptr_inv
  split at h
  · rename_i since seen stepped hg
    obtain ⟨hoff, _, hh⟩ := hR.blk i _ hg
    have hget := run_getObj' (P := P) hh (by intros; simp)
    refine ⟨_, _, _, h, .pure hR ?_ (.rig rfl)⟩
    rw [hoff]
    simp only [Instr.next, Nat.zero_add, Sem.run_bind, hget, Result.andThen_ok, Option.map_none, Sem.run_pure]
  · rename_i m since seen stepped hg
    obtain ⟨hoff, hm, hh⟩ := hR.blk i _ hg
    obtain ⟨hmn, hmo⟩ := hm m rfl
    have hget := run_getObj' (P := P) hh (by intros; simp)
    split at h
    case h_2 => cases h
    rename_i es clock hgm
    obtain ⟨hlo, hun, hall⟩ := h
    obtain ⟨_, _, cs, hhm, hE⟩ := mapBlk hR hgm
    have hgetm := run_getObj' (P := P) hhm (by intros; simp)
    -- what may come, in the world
    let left := cs.filter fun e => !seen.toArray.contains e.born
    let old := left.filter (fun e => decide (e.born < since))
    let new := left.filter (fun e => decide (e.born ≥ since))
    let cand : Array (Option MapEntry) := (if old.isEmpty then #[none] else #[]) ++ (old ++ new).map some
    have hl : ERs σ n (es.filter fun e => !seen.contains e.born) left.toList := by
      have := filter_rel hE (fun b => !seen.contains b)
      simpa [left] using this
    have ho : ERs σ n ((es.filter fun e => !seen.contains e.born).filter fun e => decide (e.born < since)) old.toList := by
      have := filter_rel hl (fun b => decide (b < since))
      simpa [old] using this
    have hw : ERs σ n ((es.filter fun e => !seen.contains e.born).filter fun e => decide (since ≤ e.born)) new.toList := by
      have := filter_rel hl (fun b => decide (since ≤ b))
      simpa [new] using this
    have hon := ho.append hw
    have hemp : old.isEmpty = ((es.filter fun e => !seen.contains e.born).filter fun e => decide (e.born < since)).isEmpty := by
      have := ho.1
      simp only [Array.length_toList] at this
      cases h1 : ((es.filter fun e => !seen.contains e.born).filter fun e => decide (e.born < since)) with
      | nil => rw [h1] at this; simp at this; simp [this]
      | cons a l =>
        rw [h1] at this
        simp only [List.isEmpty_cons]
        have : old ≠ #[] := by intro e; rw [e] at this; simp at this
        simpa using this
    have hcand : cand.size = (cands es since seen).length ∧ ∀ j, j < cand.size → (cand[j]? = some none ∧ none ∈ cands es since seen) ∨ ∃ e c, cand[j]? = some (some c) ∧ some e ∈ cands es since seen ∧ ER σ n e c := by
      have hlen := hon.1
      rw [← Array.toList_append, Array.length_toList] at hlen
      unfold cands
      simp only [← hemp]
      by_cases he : old.isEmpty = true
      · have hc : cand = #[none] ++ (old ++ new).map some := by simp only [cand]; rw [if_pos he]
        rw [hc]
        simp only [he, if_true]
        refine ⟨by simp only [Array.size_append, Array.size_map, List.size_toArray, List.length_append, List.length_map, List.length_cons, List.length_nil]; rw [← Array.size_append, hlen]; simp, fun j hj => ?_⟩
        rcases j with _ | j
        · exact .inl ⟨by rw [Array.getElem?_append_left (by simp)]; rfl, by simp⟩
        · right
          have hj2 : j < (old ++ new).size := by simp at hj ⊢; omega
          have hj3 := hj2
          rw [hlen] at hj3
          refine ⟨_, (old ++ new)[j], ?_, ?_, hon.2 j _ _ (List.getElem?_eq_getElem hj3) (by rw [← Array.toList_append, Array.getElem?_toList]; exact Array.getElem?_eq_getElem hj2)⟩
          · rw [Array.getElem?_append_right (by simp)]
            simp only [List.size_toArray, List.length_cons, List.length_nil, Nat.zero_add, Nat.add_sub_cancel, Array.getElem?_map, Array.getElem?_eq_getElem hj2, Option.map_some]
          · rw [List.mem_append]
            exact .inr (List.mem_map.2 ⟨_, List.getElem_mem _, rfl⟩)
      · have hc : cand = #[] ++ (old ++ new).map some := by simp only [cand]; rw [if_neg he]
        have hf : old.isEmpty = false := by simpa using he
        rw [hc]
        simp only [hf, Bool.false_eq_true, if_false, Array.empty_append, List.nil_append]
        refine ⟨by simp only [Array.size_map, List.length_map]; exact hlen, fun j hj => .inr ?_⟩
        have hj2 : j < (old ++ new).size := by simpa using hj
        have hj3 := hj2
        rw [hlen] at hj3
        refine ⟨_, (old ++ new)[j], ?_, ?_, hon.2 j _ _ (List.getElem?_eq_getElem hj3) (by rw [← Array.toList_append, Array.getElem?_toList]; exact Array.getElem?_eq_getElem hj2)⟩
        · simp only [Array.getElem?_map, Array.getElem?_eq_getElem hj2, Option.map_some]
        · exact List.mem_map.2 ⟨_, List.getElem_mem _, rfl⟩
    have hpos : 0 < cand.size := by
      simp only [cand]
      by_cases he : old.isEmpty = true
      · rw [if_pos he]; simp; omega
      · rw [if_neg he]
        have : 0 < old.size := by
          rcases Nat.eq_zero_or_pos old.size with e | e
          · exact absurd (by simpa [Array.isEmpty] using e) he
          · exact e
        simp; omega
    -- the choice
    obtain ⟨j, w1, hj, hch, hR1, hm1, hheap⟩ : ∃ j w1, j < cand.size ∧ (choose (.mapNext cand.size)).run P w = .ok j w1 ∧ Rel G σ H n w1 ∧ Moves lo σ H n w σ H n w1 ∧ w1.heap = w.heap := by
      rw [run_choose]
      by_cases hf : (Question.mapNext cand.size).forced = true
      · rw [if_pos hf]
        exact ⟨0, w, hpos, rfl, hR, Moves.refl hR, rfl⟩
      · rw [if_neg hf]
        exact ⟨_, w.drew, by simp only [Question.cut]; exact Nat.mod_lt _ hpos, rfl, hR.drew, Moves.drew hR, rfl⟩
    have hunb : (!seen.toArray.isEmpty && !cs.isEmpty && cs.all fun e => decide (e.born ≥ stepped)) = false := by
      have e1 : (cs.all fun e => decide (e.born ≥ stepped)) = es.all fun e => decide (stepped ≤ e.born) := by
        rw [← Array.all_toList]
        exact hE.all_born (fun b => decide (stepped ≤ b))
      have e2 : cs.isEmpty = es.isEmpty := by
        have := hE.1
        simp only [Array.length_toList] at this
        cases es with
        | nil => simp at this; simp [this]
        | cons a l =>
          have : cs ≠ #[] := by intro e; rw [e] at this; simp at this
          simpa using this
      have e3 : seen.toArray.isEmpty = seen.isEmpty := by cases seen <;> simp
      rw [e1, e2, e3]
      revert hun
      cases seen.isEmpty <;> cases es.isEmpty <;> cases (es.all fun e => decide (stepped ≤ e.born)) <;> simp
    have hh1 : w1.heap[(σ i).blk]? = some (.mapIter (some (σ m).blk) since seen.toArray stepped) := by rw [hheap]; exact hh
    have pre : ∀ (r : Result Value), ((match cand[j]? with
        | some (some e) => do
          setObj (σ i).blk (.mapIter (some (σ m).blk) since (seen.toArray.push e.born) clock)
          pure (.tuple #[.bool true, e.key, e.val])
        | some none => pure (.tuple #[.bool false])
        | none => stuck "Next: no such candidate" : Sem Value).run P w1 = r) → (Instr.next (.pointer (some ⟨(σ i).blk, (σ i).off + 0, none⟩)) false ty).run P w = r := by
      intro r hr
      rw [hoff]
      simp only [Instr.next, Nat.zero_add, Sem.run_bind, hget, Result.andThen_ok, Option.map_some, hgetm, hunb, Bool.false_eq_true, if_false, Sem.run_pure]
      have : (choose (.mapNext cand.size)).run P w = .ok j w1 := hch
      simp only [cand, old, new, left] at this hr
      rw [this]
      simp only [Result.andThen_ok]
      exact hr
    rcases hcand.2 j hj with ⟨hc, hmem⟩ | ⟨e, c, hc, hmem, her⟩
    · have := hall _ hmem
      refine ⟨_, _, _, this, _, w1, σ, pre _ (by rw [hc]; rfl), .rig rfl, hR1, hm1⟩
    · have hK := hall _ hmem
      obtain ⟨q1, q2⟩ := obj_snd (lo := lo) (o := .mapIter (some (σ m).blk) since (seen.toArray.push c.born) clock) (b' := .mit (some m) since (seen ++ [e.born]) clock) hR1 hg rfl rfl hlo hh1
        ⟨hoff, hm, by rw [set_heap_same w1 _ _ _ hh1, her.born]; simp⟩
      refine ⟨_, _, _, hK, .tuple #[.bool true, c.key, c.val], _, σ, pre _ (by
        rw [hc]
        simp only [Sem.run_bind, run_setObj' (P := P) hh1 (by intros; simp), Result.andThen_ok, Sem.run_pure]), ?_, q1, hm1.trans q2⟩
      refine .tup rfl (fun k x y hx hy => ?_)
      rcases k with _ | _ | _ | k
      · simp at hx hy; subst hx hy; exact .rig rfl
      · simp at hx hy; subst hx hy; exact her.key
      · simp at hx hy; subst hx hy; exact her.val
      · simp at hx
  · cases h

end Go.AL
