/- Each operation of the abstract machine is the model's: maps. -/
import Derived.Test.YtonhkjkdmfaodaaGreatDoorALOps6
import Derived.MapKept
set_option linter.unusedVariables false
set_option linter.unusedSimpArgs false
namespace Go.AL
open Go.RowKit

variable {P : Program} {G lo : Nat} {σ : Nat → Loc} {H H' : Heap} {n n' : Nat} {w : World}

theorem keyFits_rigid {d : Option TypeDesc} {k : Value} (h : keyFits d k = true) : rigid k = true := by
  unfold keyFits at h
  split at h <;> first | rfl | cases h
theorem keyFits_eq {d : Option TypeDesc} {k k' : Value} (h : keyFits d k = true) (hr : VR σ n k k') : k' = k := (rigid_eq (keyFits_rigid h) hr).symm
theorem same_now {d : TypeDesc} {a b : Value} (ha : keyFits (some d) a = true) (hb : keyFits (some d) b = true) : Instr.sameNow d a b = some (sameKey a b) := by
  cases d <;> simp [keyFits] at ha hb <;> cases a <;> simp at ha <;> cases b <;> simp at hb <;> simp_all [Instr.sameNow, sameKey]
theorem same_eq {d : Option TypeDesc} {a b : Value} (ha : keyFits d a = true) (hb : keyFits d b = true) (h : sameKey a b = true) : a = b := by
  cases d with
  | none => simp [keyFits] at ha
  | some d =>
    cases d <;> simp [keyFits] at ha hb <;> cases a <;> simp at ha <;> cases b <;> simp at hb <;> simp_all [sameKey, MapKept.bytes_beq]
theorem same_bits {d : Option TypeDesc} {a : Value} (ha : keyFits d a = true) : Instr.sameBits 10000 a a = true := by
  unfold keyFits at ha
  split at ha <;> first | (simp_all [Instr.sameBits]; done) | (simp only [Instr.sameBits]; exact (MapKept.bytes_beq _ _).2 rfl) | cases ha
theorem check_run {kt : TypeId} {k : Value} (h : keyFits (P.underlying kt) k = true) (b : Bool) (w : World) : (Instr.checkKey b 10000 kt k).run P w = .ok () w := by
  change (Instr.checkKey b (9999 + 1) kt k).run P w = .ok () w
  unfold Instr.checkKey
  unfold keyFits at h
  split at h
  · rename_i hu; simp only [Sem.run_bind, run_underlying hu, Result.andThen_ok]; rfl
  · rename_i hu; simp only [Sem.run_bind, run_underlying hu, Result.andThen_ok]; rfl
  · rename_i hu; simp only [Sem.run_bind, run_underlying hu, Result.andThen_ok]; rfl
  · cases h

/-- The entries of a map, side by side. -/
def ERs (σ : Nat → Loc) (n : Nat) (es cs : List MapEntry) : Prop := cs.length = es.length ∧ ∀ (k : Nat) (e c : MapEntry), es[k]? = some e → cs[k]? = some c → ER σ n e c

theorem find_now {d : TypeDesc} {k : Value} (hk : keyFits (some d) k = true) : ∀ (es cs : List MapEntry) (i : Nat), ERs σ n es cs → es.all (fun e => keyFits (some d) e.key) = true →
    (findE k es i = none → Instr.findNow d k cs i = some none) ∧ (∀ j v, findE k es i = some (j, v) → ∃ v' e c, i ≤ j ∧ es[j - i]? = some e ∧ cs[j - i]? = some c ∧ sameKey k e.key = true ∧ e.val = v ∧ c.val = v' ∧ Instr.findNow d k cs i = some (some (j, v')))
  | [], [], i, _, _ => ⟨fun _ => rfl, by simp [findE]⟩
  | [], _ :: _, i, h, _ => by simp [ERs] at h
  | _ :: _, [], i, h, _ => by simp [ERs] at h
  | e :: es, c :: cs, i, h, hall => by
    have he := h.2 0 e c rfl rfl
    simp only [List.all_cons, Bool.and_eq_true] at hall
    have hke := keyFits_eq hall.1 he.key
    have hsn := same_now hk hall.1
    obtain ⟨h1, h2⟩ := find_now hk es cs (i + 1) ⟨by have := h.1; simpa using this, fun k' e' c' h3 h4 => h.2 (k' + 1) e' c' (by simpa using h3) (by simpa using h4)⟩ hall.2
    simp only [findE, Instr.findNow, hke, hsn]
    cases hs : sameKey k e.key with
    | true =>
      simp only [if_true]
      refine ⟨by simp, fun j v hj => ?_⟩
      simp only [Option.some.injEq, Prod.mk.injEq] at hj
      obtain ⟨rfl, rfl⟩ := hj
      exact ⟨c.val, e, c, Nat.le_refl _, by simp, by simp, hs, rfl, rfl, rfl⟩
    | false =>
      simp only [Bool.false_eq_true, if_false]
      refine ⟨h1, fun j v hj => ?_⟩
      obtain ⟨v', e', c', q1, q2, q3, q4, q5, q6, q7⟩ := h2 j v hj
      refine ⟨v', e', c', by omega, ?_, ?_, q4, q5, q6, q7⟩
      · rw [show j - i = (j - (i + 1)) + 1 by omega, List.getElem?_cons_succ]; exact q2
      · rw [show j - i = (j - (i + 1)) + 1 by omega, List.getElem?_cons_succ]; exact q3

theorem mapBlk (hR : Rel G σ H n w) {i clock : Nat} {es : List MapEntry} (hg : H.get i = some (.map es clock)) : i < n ∧ (σ i).off = 0 ∧ ∃ cs : Array MapEntry, w.heap[(σ i).blk]? = some (.map cs clock) ∧ ERs σ n es cs.toList := by
  obtain ⟨h0, cs, h1, h2, h3⟩ := hR.blk i _ hg
  exact ⟨hR.dom i _ hg, h0, cs, h1, by simpa using h2, fun k e c he hc => h3 k e c he (by rw [← Array.getElem?_toList]; exact hc)⟩
theorem findKey_run {kt : TypeId} {k : Value} {es : List MapEntry} {cs : Array MapEntry} (hk : keyFits (P.underlying kt) k = true) (hE : ERs σ n es cs.toList) (hall : es.all (fun e => keyFits (P.underlying kt) e.key) = true) (w : World) :
    (findE k es 0 = none → (Instr.findKey kt k cs.toList).run P w = .ok none w) ∧ (∀ j v, findE k es 0 = some (j, v) → ∃ e c, es[j]? = some e ∧ cs[j]? = some c ∧ e.key = k ∧ c.key = k ∧ e.val = v ∧ (Instr.findKey kt k cs.toList).run P w = .ok (some (j, c.val)) w) := by
  cases hu : P.underlying kt with
  | none => rw [hu] at hk; simp [keyFits] at hk
  | some d =>
    rw [hu] at hk hall
    obtain ⟨h1, h2⟩ := find_now hk es cs.toList 0 hE hall
    refine ⟨fun h => ?_, fun j v h => ?_⟩
    · simp [Instr.findKey, run_underlying hu, h1 h]
    · obtain ⟨v', e, c, _, q2, q3, q4, q5, q6, q7⟩ := h2 j v h
      simp only [Nat.sub_zero] at q2 q3
      have hfe : keyFits (some d) e.key = true := by
        rw [List.all_eq_true] at hall
        exact hall e (List.mem_of_getElem? q2)
      have hek : e.key = k := (same_eq hk hfe q4).symm
      have hck : c.key = k := by rw [← hek]; exact keyFits_eq hfe (hE.2 j e c q2 q3).key
      exact ⟨e, c, q2, by rw [← Array.getElem?_toList]; exact q3, hek, hck, q5, by simp [Instr.findKey, run_underlying hu, q7, q6]⟩

theorem pair_VR {a b : Value} (h : VR σ n a b) (t : Value) (ht : rigid t = true) : VR σ n (.tuple #[a, t]) (.tuple #[b, t]) := by
  refine .tup rfl (fun k x y hx hy => ?_)
  rcases k with _ | _ | k
  · simp at hx hy; subst hx hy; exact h
  · simp at hx hy; subst hx hy; exact .rig ht
  · simp at hx

theorem lookup_main (hR : Rel G σ H n w) {t kt et : TypeId} {m' k k' v z : Value} {ok : Bool} (hk : VR σ n k k') (ht : P.underlying t = some (.map kt et)) (hz : zeroOf P et = some z) (es : List MapEntry) (cs : Array MapEntry)
    (hE : ERs σ n es cs.toList) (hrun : (m' = .map none ∧ cs = #[]) ∨ ∃ r clock, m' = .map (some r) ∧ (getObj r).run P w = .ok (.map cs clock) w)
    (h : (if keyFits (P.underlying kt) k = true ∧ es.all (fun e => keyFits (P.underlying kt) e.key) = true then
          (match findE k es 0 with
          | some (_, v) => some (if ok then Value.tuple #[v, .bool true] else v, H, n)
          | none => some (if ok then Value.tuple #[z, .bool false] else z, H, n)) else none) = some (v, H', n')) : Snd P G lo σ H n w (Instr.lookup t m' k' ok) v H' n' := by
  have hzr : VR σ n z z := .rig (rigid_of_sc2 (zero_sc2 hz).1)
  split at h
  case isFalse => cases h
  rename_i hf
  obtain ⟨hkf, hall⟩ := hf
  have hkk := keyFits_eq hkf hk
  subst hkk
  obtain ⟨f1, f2⟩ := findKey_run (P := P) hkf hE hall w
  have hc := check_run (P := P) hkf cs.isEmpty w
  split at h
  · rename_i j v0 hfe
    obtain ⟨e, c, q1, q2, q3, q4, q5, q6⟩ := f2 j v0 hfe
    cases h
    have hv := (hE.2 j e c q1 (by rw [Array.getElem?_toList]; exact q2)).val
    rw [q5] at hv
    refine ⟨if ok then .tuple #[c.val, .bool true] else c.val, w, σ, ?_, ?_, hR, Moves.refl hR⟩
    · rcases hrun with ⟨rfl, rfl⟩ | ⟨r, clock, rfl, hg⟩
      · simp at q2
      · simp only [Instr.lookup, Sem.run_bind, run_underlying ht, Result.andThen_ok, hg, hc, q6, Sem.run_pure]
    · cases ok
      · exact hv
      · exact pair_VR hv _ rfl
  · rename_i hfe
    cases h
    have q6 := f1 hfe
    refine ⟨if ok then .tuple #[z, .bool false] else z, w, σ, ?_, ?_, hR, Moves.refl hR⟩
    · rcases hrun with ⟨rfl, rfl⟩ | ⟨r, clock, rfl, hg⟩
      · simp only [Instr.lookup, Sem.run_bind, run_underlying ht, Result.andThen_ok, pure_bind, hc, q6, run_zero hz, Sem.run_pure]
      · simp only [Instr.lookup, Sem.run_bind, run_underlying ht, Result.andThen_ok, hg, hc, q6, run_zero hz, Sem.run_pure]
    · cases ok
      · exact hzr
      · exact pair_VR hzr _ rfl

theorem lookup_snd (hR : Rel G σ H n w) {t : TypeId} {m m' k k' v : Value} {ok : Bool} (hm : VR σ n m m') (hk : VR σ n k k') (h : aLookup P t m k ok H n = some (v, H', n')) : Snd P G lo σ H n w (Instr.lookup t m' k' ok) v H' n' := by
  unfold aLookup at h
  split at h
  case h_2 => cases h
  rename_i kt et hmt
  have ht := mapElem_some hmt
  split at h
  case h_2 => cases h
  rename_i z hz
  simp only at h
  split at h
  case h_2 => cases h
  rename_i es hes
  split at hes
  · cases hes
    have e := hm.mapnil_inv
    subst e
    exact lookup_main hR hk ht hz [] #[] ⟨rfl, by simp⟩ (.inl ⟨rfl, rfl⟩) h
  · rename_i i
    obtain ⟨hi, hoff, rfl⟩ := hm.map_inv
    split at hes
    · rename_i es' clock hg
      cases hes
      obtain ⟨_, _, cs, hh, hE⟩ := mapBlk hR hg
      exact lookup_main hR hk ht hz es cs hE (.inr ⟨_, clock, rfl, by simp [getObj, Sem.run, hh]⟩) h
    · cases hes
  · cases hes

theorem set_heap_ne (w : World) (r k : Nat) (o : Obj) (h : k ≠ r) : ({ w with heap := w.heap.setIfInBounds r o } : World).heap[k]? = w.heap[k]? := by
  simp [Array.getElem?_setIfInBounds_ne (Ne.symm h)]
theorem set_heap_same (w : World) (r : Nat) (o o' : Obj) (h : w.heap[r]? = some o') : ({ w with heap := w.heap.setIfInBounds r o } : World).heap[r]? = some o := by
  have := (Array.getElem?_eq_some_iff.1 h).1
  simp [this]
theorem run_setObj' {r : Nat} {o o' : Obj} (h : w.heap[r]? = some o') (hc : ∀ c t f, o' ≠ .cells c t f) : (setObj r o).run P w = .ok () { w with heap := w.heap.setIfInBounds r o } := by
  unfold setObj Sem.run
  rw [h]
  cases o' <;> first | rfl | exact absurd rfl (hc _ _ _)
theorem run_getObj' {r : Nat} {o' : Obj} (h : w.heap[r]? = some o') (hc : ∀ c t f, o' ≠ .cells c t f) : (getObj r).run P w = .ok o' w := by
  unfold getObj Sem.run
  rw [h]
  cases o' <;> first | rfl | exact absurd rfl (hc _ _ _)

/-- A block that is no row is another one now. -/
theorem obj_snd (hR : Rel G σ H n w) {i : Nat} {b b' : Blk} {o o' : Obj} (hg : H.get i = some b) (hw : b.wr = true) (hw' : b'.wr = true) (hlo : lo ≤ i) (hh : w.heap[(σ i).blk]? = some o') 
    (hb : BR σ n { w with heap := w.heap.setIfInBounds (σ i).blk o } i b') :
    Rel G σ (H.upd i (some b')) n { w with heap := w.heap.setIfInBounds (σ i).blk o } ∧ Moves lo σ H n w σ (H.upd i (some b')) n { w with heap := w.heap.setIfInBounds (σ i).blk o } :=
  ⟨hR.write hg hw hw' (by simp) (fun k hk => set_heap_ne w _ k o hk) hb, Moves.write hR hlo hg hw (fun c e => by cases e; exact hw') rfl rfl rfl (by simp) (fun k hk => set_heap_ne w _ k o hk)⟩
theorem mapWrite_snd (hR : Rel G σ H n w) {i clock clock' : Nat} {es es' : List MapEntry} {cs' : Array MapEntry} (hg : H.get i = some (.map es clock)) (hlo : lo ≤ i) (hE : ERs σ n es' cs'.toList) :
    Rel G σ (H.upd i (some (.map es' clock'))) n { w with heap := w.heap.setIfInBounds (σ i).blk (.map cs' clock') } ∧ Moves lo σ H n w σ (H.upd i (some (.map es' clock'))) n { w with heap := w.heap.setIfInBounds (σ i).blk (.map cs' clock') } := by
  obtain ⟨hi, hoff, cs, hh, _⟩ := mapBlk hR hg
  exact obj_snd hR hg rfl rfl hlo hh ⟨hoff, cs', set_heap_same w _ _ _ hh, by simpa using hE.1, fun k e c he hc => hE.2 k e c he (by rw [Array.getElem?_toList]; exact hc)⟩

theorem ERs.modify {es cs : List MapEntry} (h : ERs σ n es cs) (j : Nat) {f g : MapEntry → MapEntry} (hf : ∀ e c, es[j]? = some e → cs[j]? = some c → ER σ n (f e) (g c)) : ERs σ n (es.modify j f) (cs.modify j g) := by
  refine ⟨by simp [h.1], fun k e c he hc => ?_⟩
  rw [List.getElem?_modify] at he hc
  simp only [Option.map_eq_map, Option.map_eq_some_iff] at he hc
  obtain ⟨e0, he0, rfl⟩ := he
  obtain ⟨c0, hc0, rfl⟩ := hc
  by_cases hk : j = k
  · subst hk; simpa using hf e0 c0 he0 hc0
  · simpa [hk] using h.2 k e0 c0 he0 hc0
theorem ERs.push {es cs : List MapEntry} (h : ERs σ n es cs) {e c : MapEntry} (he : ER σ n e c) : ERs σ n (es ++ [e]) (cs ++ [c]) := by
  refine ⟨by simp [h.1], fun k e' c' h1 h2 => ?_⟩
  rcases Nat.lt_or_ge k es.length with hk | hk
  · rw [List.getElem?_append_left hk] at h1
    rw [List.getElem?_append_left (by rw [h.1]; exact hk)] at h2
    exact h.2 k e' c' h1 h2
  · rw [List.getElem?_append_right hk] at h1
    rw [List.getElem?_append_right (by rw [h.1]; exact hk), h.1] at h2
    rcases Nat.lt_or_ge (k - es.length) 1 with h3 | h3
    · rw [show k - es.length = 0 by omega] at h1 h2
      simp at h1 h2
      subst h1 h2
      exact he
    · rw [List.getElem?_eq_none (by simpa using h3)] at h1; cases h1

theorem keyThatStays_run {d : Option TypeDesc} {k : Value} (hk : keyFits d k = true) (w : World) : (Instr.keyThatStays k k).run P w = .ok k w := by
  simp [Instr.keyThatStays, same_bits hk]

theorem mapUpdate_snd (hR : Rel G σ H n w) {t : TypeId} {m m' k k' v v' x : Value} (hm : VR σ n m m') (hk : VR σ n k k') (hv : VR σ n v v') (h : aMapUpdate P lo t m k v H n = some (x, H', n')) :
    x = undef ∧ SndU P G lo σ H n w (Instr.mapUpdate t m' k' v') H' n' := by
  unfold aMapUpdate at h
  split at h
  case h_2 => cases h
  rename_i kt et i hmt
  have ht := mapElem_some hmt
  obtain ⟨hi, hoff, rfl⟩ := hm.map_inv
  split at h
  case h_2 => cases h
  rename_i es clock hg
  obtain ⟨_, _, cs, hh, hE⟩ := mapBlk hR hg
  split at h
  case isFalse => cases h
  rename_i hf
  obtain ⟨hlo, hkf, hall⟩ := hf
  have hkk := keyFits_eq hkf hk
  subst hkk
  obtain ⟨f1, f2⟩ := findKey_run (P := P) hkf hE hall w
  have hc := check_run (P := P) hkf false w
  have hget := run_getObj' (P := P) hh (by intros; simp)
  split at h
  · rename_i j v0 hfe
    obtain ⟨e, c, q1, q2, q3, q4, q5, q6⟩ := f2 j v0 hfe
    cases h
    refine ⟨rfl, _, σ, ?_, mapWrite_snd (cs' := cs.modify j fun e => { e with key := k', val := v' }) hR hg hlo ?_⟩
    · simp only [Instr.mapUpdate, Sem.run_bind, run_underlying ht, Result.andThen_ok, hget, hc, q6, q2, Option.map_some, Option.getD_some, q4, keyThatStays_run hkf, run_setObj' (P := P) hh (by intros; simp)]
    · rw [Array.toList_modify]
      exact hE.modify j (fun e c he hc => ⟨hk, hv, (hE.2 j e c he hc).born⟩)
  · rename_i hfe
    cases h
    have q6 := f1 hfe
    refine ⟨rfl, _, σ, ?_, mapWrite_snd (cs' := cs.push { key := k', val := v', born := clock }) hR hg hlo ?_⟩
    · simp only [Instr.mapUpdate, Sem.run_bind, run_underlying ht, Result.andThen_ok, hget, hc, q6, run_setObj' (P := P) hh (by intros; simp)]
    · rw [Array.toList_push]
      exact hE.push ⟨hk, hv, rfl⟩

theorem mapEntry_snd (hR : Rel G σ H n w) {t : TypeId} {m m' k k' x : Value} (hm : VR σ n m m') (hk : VR σ n k k') (h : aMapEntry P lo t m k H n = some (x, H', n')) : Snd P G lo σ H n w (Instr.mapEntry t m' k') x H' n' := by
  unfold aMapEntry at h
  split at h
  case h_2 => cases h
  rename_i kt et i hmt
  have ht := mapElem_some hmt
  obtain ⟨hi, hoff, rfl⟩ := hm.map_inv
  split at h
  case h_2 => cases h
  rename_i es clock z hg hz
  obtain ⟨_, _, cs, hh, hE⟩ := mapBlk hR hg
  split at h
  case isFalse => cases h
  rename_i hf
  obtain ⟨hlo, hkf, hall⟩ := hf
  have hkk := keyFits_eq hkf hk
  subst hkk
  obtain ⟨f1, f2⟩ := findKey_run (P := P) hkf hE hall w
  have hc := check_run (P := P) hkf false w
  have hget := run_getObj' (P := P) hh (by intros; simp)
  split at h
  · rename_i j v0 hfe
    obtain ⟨e, c, q1, q2, q3, q4, q5, q6⟩ := f2 j v0 hfe
    cases h
    have her := hE.2 j e c q1 (by rw [Array.getElem?_toList]; exact q2)
    refine ⟨.tuple #[c.val, goInt c.born], _, σ, ?_, ?_, mapWrite_snd (cs' := cs.modify j fun e => { e with key := k' }) hR hg hlo ?_⟩
    · simp only [Instr.mapEntry, Sem.run_bind, run_underlying ht, Result.andThen_ok, hget, hc, q6, q2, Option.map_some, Option.getD_some, q4, keyThatStays_run hkf, run_setObj' (P := P) hh (by intros; simp), Sem.run_pure]
    · have hv := her.val
      rw [q5] at hv
      have := pair_VR hv (goInt c.born) rfl
      simpa [q1, her.born] using this
    · rw [Array.toList_modify]
      exact hE.modify j (fun e c he hc => ⟨hk, (hE.2 j e c he hc).val, (hE.2 j e c he hc).born⟩)
  · rename_i hfe
    cases h
    have q6 := f1 hfe
    have hzr : VR σ n z z := .rig (rigid_of_sc2 (zero_sc2 hz).1)
    refine ⟨.tuple #[z, goInt clock], _, σ, ?_, pair_VR hzr _ rfl, mapWrite_snd (cs' := cs.push { key := k', val := z, born := clock }) hR hg hlo ?_⟩
    · simp only [Instr.mapEntry, Sem.run_bind, run_underlying ht, Result.andThen_ok, hget, hc, q6, run_zero hz, run_setObj' (P := P) hh (by intros; simp), Sem.run_pure]
    · rw [Array.toList_push]
      exact hE.push ⟨hk, hzr, rfl⟩

theorem entryStore_snd (hR : Rel G σ H n w) {t : TypeId} {m m' b b' v v' x : Value} (hm : VR σ n m m') (hb : VR σ n b b') (hv : VR σ n v v') (h : aEntryStore lo m b v H n = some (x, H', n')) :
    x = undef ∧ SndU P G lo σ H n w (Instr.entryStore t m' b' v') H' n' := by
  unfold aEntryStore at h
  split at h
  case h_2 => cases h
  rename_i i kk bb
  obtain ⟨hi, hoff, rfl⟩ := hm.map_inv
  rw [hb.int_inv]
  split at h
  case h_2 => cases h
  rename_i es clock hg
  obtain ⟨_, _, cs, hh, hE⟩ := mapBlk hR hg
  split at h
  case isFalse => cases h
  rename_i hlo
  split at h
  case h_2 => cases h
  rename_i j hj
  cases h
  have hget := run_getObj' (P := P) hh (by intros; simp)
  have hj' : cs.findIdx? (fun e => (e.born : Int) == bb) = some j := by
    have e0 : ∀ p, cs.findIdx? p = cs.toList.findIdx? p := fun p => by cases cs; simp
    rw [e0]
    rw [List.findIdx?_eq_some_iff_getElem] at hj ⊢
    obtain ⟨h1, h2, h3⟩ := hj
    have hl : j < cs.toList.length := by rw [hE.1]; exact h1
    refine ⟨hl, ?_, fun q hq => ?_⟩
    · rw [← (hE.2 j _ _ (List.getElem?_eq_getElem h1) (List.getElem?_eq_getElem hl)).born]; exact h2
    · have hql : q < cs.toList.length := by omega
      rw [← (hE.2 q _ _ (List.getElem?_eq_getElem (by omega)) (List.getElem?_eq_getElem hql)).born]
      exact h3 q hq
  refine ⟨rfl, _, σ, ?_, mapWrite_snd (cs' := cs.modify j fun e => { e with val := v' }) hR hg hlo ?_⟩
  · simp only [Instr.entryStore, Sem.run_bind, hget, Result.andThen_ok, asInt, asIntOf, Sem.run_pure, hj', run_setObj' (P := P) hh (by intros; simp)]
  · rw [Array.toList_modify]
    exact hE.modify j (fun e c he hc => ⟨(hE.2 j e c he hc).key, hv, (hE.2 j e c he hc).born⟩)

theorem delete_snd (hR : Rel G σ H n w) {t ty : TypeId} {ts : List TypeId} {m m' k k' x : Value} (hm : VR σ n m m') (hk : VR σ n k k') (h : aDelete P lo t m k H n = some (x, H', n')) :
    Snd P G lo σ H n w (Builtin.delete_ (t :: ts).toArray ty #[m', k']) x H' n' := by
  unfold aDelete at h
  split at h
  case h_2 => cases h
  rename_i kt et i hmt
  have ht := mapElem_some hmt
  obtain ⟨hi, hoff, rfl⟩ := hm.map_inv
  split at h
  case h_2 => cases h
  rename_i es clock hg
  obtain ⟨_, _, cs, hh, hE⟩ := mapBlk hR hg
  split at h
  case isFalse => cases h
  rename_i hf
  obtain ⟨hlo, hkf, hall⟩ := hf
  have hkk := keyFits_eq hkf hk
  subst hkk
  obtain ⟨f1, f2⟩ := findKey_run (P := P) hkf hE hall w
  have hc := check_run (P := P) hkf cs.isEmpty w
  have hget := run_getObj' (P := P) hh (by intros; simp)
  split at h
  · rename_i j v0 hfe
    obtain ⟨e, c, q1, q2, q3, q4, q5, q6⟩ := f2 j v0 hfe
    cases h
    refine ⟨.tuple #[], _, σ, ?_, .rig rfl, mapWrite_snd (cs' := cs.eraseIdxIfInBounds j) hR hg hlo ?_⟩
    · simp only [Builtin.delete_, List.getElem?_toArray, List.getElem?_cons_zero, List.getElem?_cons_succ, Sem.run_bind, run_underlying ht, Result.andThen_ok, hget, hc, q6, run_setObj' (P := P) hh (by intros; simp), Sem.run_pure]
    · have hjl : j < cs.size := (Array.getElem?_eq_some_iff.1 q2).1
      rw [Array.eraseIdxIfInBounds, dif_pos hjl, Array.toList_eraseIdx]
      have hl := hE.1
      refine ⟨by simp only [List.length_eraseIdx]; rw [hl], fun q e c he hc => ?_⟩
      rw [List.getElem?_eraseIdx] at he hc
      split at he
      · rename_i hq; rw [if_pos hq] at hc; exact hE.2 q e c he hc
      · rename_i hq; rw [if_neg hq] at hc; exact hE.2 (q + 1) e c he hc
  · rename_i hfe
    cases h
    have q6 := f1 hfe
    refine ⟨.tuple #[], _, σ, ?_, .rig rfl, mapWrite_snd (cs' := cs) hR hg hlo hE⟩
    simp only [Builtin.delete_, List.getElem?_toArray, List.getElem?_cons_zero, List.getElem?_cons_succ, Sem.run_bind, run_underlying ht, Result.andThen_ok, hget, hc, q6, run_setObj' (P := P) hh (by intros; simp), Sem.run_pure]

end Go.AL
