/- Each operation of the abstract machine is the model's, in every world that it stands for. -/
import Derived.Test.YtonhkjkdmfaodaaGreatDoorALRel
import Derived.Laws.CopyRow
set_option linter.unusedVariables false
set_option linter.unusedSimpArgs false
namespace Go.AL
open Go.RowKit

variable {P : Program} {G lo : Nat} {σ : Nat → Loc} {H H' : Heap} {n n' : Nat} {w : World}

/-- A run comes to a value that is the abstract one, in a world that is the abstract heap. -/
def Snd (P : Program) (G lo : Nat) (σ : Nat → Loc) (H : Heap) (n : Nat) (w : World) (s : Sem Value) (v : Value) (H' : Heap) (n' : Nat) : Prop :=
  ∃ v' w' σ', s.run P w = .ok v' w' ∧ VR σ' n' v v' ∧ Rel G σ' H' n' w' ∧ Moves lo σ H n w σ' H' n' w'
def SndU (P : Program) (G lo : Nat) (σ : Nat → Loc) (H : Heap) (n : Nat) (w : World) (s : Sem Unit) (H' : Heap) (n' : Nat) : Prop :=
  ∃ w' σ', s.run P w = .ok () w' ∧ Rel G σ' H' n' w' ∧ Moves lo σ H n w σ' H' n' w'

/-! ### What a related value looks like -/
theorem VR.ptr_inv {i o : Nat} {v : Value} (h : VR σ n (.pointer (some ⟨i, o, none⟩)) v) : In σ n i ∧ v = .pointer (some ⟨(σ i).blk, (σ i).off + o, none⟩) := by
  cases h with
  | rig h => simp [rigid, sc2, sc1, sc0] at h
  | ptr h => exact ⟨h, rfl⟩
theorem VR.map_inv {i : Nat} {v : Value} (h : VR σ n (.map (some i)) v) : In σ n i ∧ (σ i).off = 0 ∧ v = .map (some (σ i).blk) := by
  cases h with
  | rig h => simp [rigid, sc2, sc1, sc0] at h
  | mp h h0 => exact ⟨h, h0, rfl⟩
theorem VR.nil_inv {l c : Nat} {v : Value} (h : VR σ n (.slice none l c) v) : l = 0 ∧ c = 0 ∧ v = .slice none 0 0 := by
  cases h with
  | rig h =>
    have : l = 0 ∧ c = 0 := by
      rcases l with _ | l <;> rcases c with _ | c <;> simp [rigid, sc2, sc1, sc0] at h ⊢
    obtain ⟨rfl, rfl⟩ := this
    exact ⟨rfl, rfl, rfl⟩
theorem VR.sl_inv {i o l c : Nat} {v : Value} (h : VR σ n (.slice (some ⟨i, o, none⟩) l c) v) : In σ n i ∧ ∃ a cc, v = .slice (some a) l cc ∧ a.spot = none ∧ l ≤ cc ∧ (c = 0 → cc = 0) ∧
    (c = 1 → (σ i).wr = true → (σ i).off + o + cc * (σ i).es ≤ (σ i).size) ∧ (a = ⟨(σ i).blk, (σ i).off + o, none⟩ ∨ (l = 0 ∧ c ≠ 1)) := by
  cases h with
  | rig h => simp [rigid, sc2, sc1, sc0] at h
  | sl h hl h0 h1 => exact ⟨h, _, _, rfl, rfl, hl, h0, h1, .inl rfl⟩
  | sl0 h ha h0 h1 => exact ⟨h, _, _, rfl, ha, Nat.zero_le _, h0, fun e => absurd e h1, .inr ⟨rfl, h1⟩⟩
theorem sc2_of_sc1 {v : Value} (h : sc1 v = true) : sc2 v = true := by
  cases v with
  | agg a => simp [sc1, sc0] at h
  | _ => exact h
theorem rigid_of_sc2 {v : Value} (h : sc2 v = true) : rigid v = true := by
  cases v with
  | tuple a => simp [sc2, sc1, sc0] at h
  | _ => exact h
theorem rigid_of_sc1 {v : Value} (h : sc1 v = true) : rigid v = true := rigid_of_sc2 (sc2_of_sc1 h)
theorem sc1_of_sc0 {v : Value} (h : sc0 v = true) : sc1 v = true := by
  cases v with
  | iface t x => simp [sc0] at h
  | _ => exact h
theorem VR.tup_inv {a : Array Value} {v : Value} (h : VR σ n (.tuple a) v) : ∃ a' : Array Value, v = .tuple a' ∧ a.size = a'.size ∧ ∀ (k : Nat) (x y : Value), a[k]? = some x → a'[k]? = some y → VR σ n x y := by
  cases h with
  | rig h =>
    refine ⟨a, rfl, rfl, fun k x y hx hy => ?_⟩
    have e : x = y := by simpa [hx] using hy
    subst e
    refine .rig ?_
    simp only [rigid, List.all_eq_true] at h
    have hm : x ∈ a.toList := by simpa using Array.mem_of_getElem? hx
    exact rigid_of_sc2 (h x hm)
  | tup ha ra => exact ⟨_, rfl, ha, ra⟩
theorem VR.agg_inv {a : Array Value} {v : Value} (h : VR σ n (.agg a) v) : ∃ a' : Array Value, v = .agg a' ∧ a.size = a'.size ∧ ∀ (k : Nat) (x y : Value), a[k]? = some x → a'[k]? = some y → VR σ n x y := by
  cases h with
  | rig h =>
    refine ⟨a, rfl, rfl, fun k x y hx hy => ?_⟩
    have e : x = y := by simpa [hx] using hy
    subst e
    refine .rig ?_
    simp only [rigid, sc2, List.all_eq_true] at h
    have hm : x ∈ a.toList := by simpa using Array.mem_of_getElem? hx
    exact rigid_of_sc1 (h x hm)
  | agg ha ra => exact ⟨_, rfl, ha, ra⟩
theorem VR.iface_inv {t : TypeId} {x v : Value} (h : VR σ n (.iface t x) v) : ∃ x', v = .iface t x' ∧ VR σ n x x' := by
  cases h with
  | rig h =>
    refine ⟨x, rfl, .rig ?_⟩
    cases x with
    | agg cs =>
      simp only [rigid, sc2, sc1, List.all_eq_true] at h ⊢
      exact fun y hy => sc1_of_sc0 (h y hy)
    | tuple cs => simp [rigid, sc2, sc1, sc0] at h
    | iface u y => simp [rigid, sc2, sc1, sc0] at h
    | _ => exact h
  | ifc h => exact ⟨_, rfl, h⟩
theorem VR.fn_inv {f : Fn} {a b : Array Value} {v : Value} (hf : notYield f = true) (h : VR σ n (.func f a b) v) : ∃ a' b' : Array Value, v = .func f a' b' ∧ a.size = a'.size ∧ b.size = b'.size ∧
    (∀ (k : Nat) (x y : Value), a[k]? = some x → a'[k]? = some y → VR σ n x y) ∧ (∀ (k : Nat) (x y : Value), b[k]? = some x → b'[k]? = some y → VR σ n x y) := by
  cases h with
  | rig h =>
    simp only [rigid, sc2, sc1, sc0, Bool.and_eq_true, List.isEmpty_iff, Array.toList_eq_nil_iff] at h
    obtain ⟨⟨_, rfl⟩, rfl⟩ := h
    exact ⟨#[], #[], rfl, rfl, rfl, by simp, by simp⟩
  | yl => simp [notYield] at hf
  | fn hf ha hb ra rb => exact ⟨_, _, rfl, ha, hb, ra, rb⟩
theorem VR.fn_form {f : Fn} {a b : Array Value} {v : Value} (h : VR σ n (.func f a b) v) : ∃ (g : Fn) (a' b' : Array Value), v = .func g a' b' := by
  cases h with
  | rig h => exact ⟨_, _, _, rfl⟩
  | yl => exact ⟨_, _, _, rfl⟩
  | fn => exact ⟨_, _, _, rfl⟩
theorem VR.yl_inv {i : Nat} {a b : Array Value} {v : Value} (h : VR σ n (.func (.yield i) a b) v) : In σ n i ∧ (σ i).off = 0 ∧ a = #[] ∧ b = #[] ∧ v = .func (.yield (σ i).blk) #[] #[] := by
  cases h with
  | rig h => simp [rigid, sc2, sc1, sc0, notYield] at h
  | yl h h0 => exact ⟨h, h0, rfl, rfl, rfl⟩
  | fn hf => simp [notYield] at hf

/-- The cells of related values. -/
theorem VR.cells {v v' : Value} (h : VR σ n v v') : v.cells.size = v'.cells.size ∧ ∀ (k : Nat) (x y : Value), v.cells[k]? = some x → v'.cells[k]? = some y → VR σ n x y := by
  have one : ∀ {x y : Value}, VR σ n x y → x.cells = #[x] → y.cells = #[y] → x.cells.size = y.cells.size ∧ ∀ (k : Nat) (x' y' : Value), x.cells[k]? = some x' → y.cells[k]? = some y' → VR σ n x' y' := by
    intro x y hxy hx hy
    rw [hx, hy]
    refine ⟨rfl, fun k x' y' h1 h2 => ?_⟩
    rcases k with _ | k
    · simp at h1 h2; subst h1 h2; exact hxy
    · simp at h1
  cases h with
  | agg ha ra => exact ⟨ha, ra⟩
  | rig hr =>
    cases v with
    | agg a =>
      obtain ⟨a', e, h1, h2⟩ := VR.agg_inv (σ := σ) (n := n) (.rig hr)
      cases e
      exact ⟨h1, h2⟩
    | _ => exact one (.rig hr) rfl rfl
  | ptr h => exact one (.ptr h) rfl rfl
  | sl h hl h0 h1 => exact one (.sl h hl h0 h1) rfl rfl
  | sl0 h ha h0 h1 => exact one (.sl0 h ha h0 h1) rfl rfl
  | mp h h0 => exact one (.mp h h0) rfl rfl
  | yl h h0 => exact one (.yl h h0) rfl rfl
  | fn hf ha hb ra rb => exact one (.fn hf ha hb ra rb) rfl rfl
  | ifc h => exact one (.ifc h) rfl rfl
  | tup ha ra => exact one (.tup ha ra) rfl rfl

theorem VR.oneCell {v v' : Value} (h : VR σ n v v') : v'.oneCell' = v.oneCell' := by cases h <;> rfl

/-! ### Runs of the model's small words -/
theorem run_info {t : TypeId} {i : TypeInfo} (h : P.info? t = some i) (w : World) : (typeInfo t).run P w = .ok i w := by simp [typeInfo, h]
theorem run_sz {t : TypeId} (h : 0 < szOf P t) (w : World) : (sizeOf t).run P w = .ok (szOf P t) w := by
  unfold szOf at h ⊢
  cases hi : P.info? t with
  | none => rw [hi] at h; simp at h
  | some i => simp [sizeOf, run_info hi]
theorem run_sz' {t : TypeId} {d : TypeDesc} (h : P.underlying t = some d) (w : World) : (sizeOf t).run P w = .ok (szOf P t) w := by
  unfold szOf
  cases hi : P.info? t with
  | none => simp [Program.underlying, hi] at h
  | some i => simp [sizeOf, run_info hi]
theorem run_zero {t : TypeId} {z : Value} (h : zeroOf P t = some z) (w : World) : (zeroValue t).run P w = .ok z w := by
  unfold zeroOf at h
  cases hi : P.info? t with
  | none => rw [hi] at h; cases h
  | some i =>
    rw [hi] at h
    cases hz : i.zero with
    | none => simp [hz] at h
    | some z' =>
      simp only [hz] at h
      split at h
      · cases h; simp [zeroValue, run_info hi, hz]
      · cases h
theorem zero_sc2 {t : TypeId} {z : Value} (h : zeroOf P t = some z) : sc2 z = true ∧ z.cells.toList.all Value.oneCell' = true := by
  unfold zeroOf at h
  split at h
  · split at h
    · split at h
      · rename_i hz; cases h; simpa using hz
      · cases h
    · cases h
  · cases h
theorem run_aggT {t : TypeId} {d : TypeDesc} (h : P.underlying t = some d) (w : World) : (isAgg t).run P w = .ok (aggT P t) w := by
  unfold aggT isAgg
  rw [h]
  simp only [Sem.run_bind, run_underlying h, Result.andThen_ok]
  cases d <;> rfl

/-! ### Cells read and written -/
theorem exists_list {α : Type} {p : Nat → α → Prop} : ∀ k, (∀ j, j < k → ∃ c, p j c) → ∃ ds : List α, ds.length = k ∧ ∀ (j : Nat) (c : α), ds[j]? = some c → p j c
  | 0, _ => ⟨[], rfl, by simp⟩
  | k + 1, h => by
    obtain ⟨ds, h1, h2⟩ := exists_list k (fun j hj => h j (by omega))
    obtain ⟨c, hc⟩ := h k (by omega)
    refine ⟨ds ++ [c], by simp [h1], fun j c' hj => ?_⟩
    rcases Nat.lt_or_ge j ds.length with hl | hl
    · rw [List.getElem?_append_left hl] at hj; exact h2 j c' hj
    · rw [List.getElem?_append_right hl] at hj
      rcases Nat.lt_or_ge (j - ds.length) 1 with h3 | h3
      · have : j = k := by omega
        subst this
        rw [show j - ds.length = 0 by omega] at hj
        simp at hj; subst hj; exact hc
      · rw [List.getElem?_eq_none (by simpa using h3)] at hj; cases hj

theorem readL_some {vs : List Value} : ∀ {k o : Nat} {cs : List Value}, readL vs o k = some cs → cs.length = k ∧ ∀ j, j < k → cs[j]? = vs[o + j]?
  | 0, o, cs, h => by simp only [readL, Option.some.injEq] at h; subst h; exact ⟨rfl, by intros; omega⟩
  | k + 1, o, cs, h => by
    simp only [readL] at h
    split at h
    · rename_i v hv
      split at h
      · rename_i r hr
        cases h
        obtain ⟨h1, h2⟩ := readL_some hr
        refine ⟨by simp [h1], fun j hj => ?_⟩
        rcases j with _ | j
        · simp [hv]
        · simp only [List.getElem?_cons_succ]
          rw [h2 j (by omega)]
          congr 1; omega
      · cases h
    · cases h
theorem add_none (g o k : Nat) : (⟨g, o, none⟩ : Addr).add k = ⟨g, o + k, none⟩ := by unfold Addr.add; split <;> simp_all

theorem read_snd (hR : Rel G σ H n w) {i o k : Nat} {cs : List Value} (h : H.read i o k = some cs) : i < n ∧ cs.length = k ∧ ∃ ds : List Value, ds.length = k ∧
    (∀ (j : Nat) (x y : Value), cs[j]? = some x → ds[j]? = some y → VR σ n x y) ∧ ∀ (j : Nat) (y : Value), ds[j]? = some y → w.cell? ((⟨(σ i).blk, (σ i).off + o, none⟩ : Addr).add j) = some y := by
  have main : ∀ vs : List Value, readL vs o k = some cs → (∀ (j : Nat) (v : Value), vs[j]? = some v → ∃ c, w.cell? ⟨(σ i).blk, (σ i).off + j, none⟩ = some c ∧ VR σ n v c) → cs.length = k ∧ ∃ ds : List Value, ds.length = k ∧
    (∀ (j : Nat) (x y : Value), cs[j]? = some x → ds[j]? = some y → VR σ n x y) ∧ ∀ (j : Nat) (y : Value), ds[j]? = some y → w.cell? ((⟨(σ i).blk, (σ i).off + o, none⟩ : Addr).add j) = some y := by
    intro vs hv hc
    obtain ⟨hl, hj⟩ := readL_some hv
    obtain ⟨ds, h1, h2⟩ := exists_list (p := fun j c => w.cell? ⟨(σ i).blk, (σ i).off + (o + j), none⟩ = some c ∧ ∀ x, cs[j]? = some x → VR σ n x c) k (fun j hjk => by
      have hx : cs[j]? = some cs[j] := List.getElem?_eq_getElem (by omega)
      obtain ⟨c, hc1, hc2⟩ := hc (o + j) cs[j] (by rw [← hj j hjk, hx])
      exact ⟨c, hc1, fun x hx' => by rw [hx] at hx'; cases hx'; exact hc2⟩)
    exact ⟨hl, ds, h1, fun j x y hx hy => (h2 j y hy).2 x hx, fun j y hy => by rw [add_none, Nat.add_assoc]; exact (h2 j y hy).1⟩
  unfold Heap.read at h
  split at h
  · rename_i vs t es hg
    refine ⟨hR.dom i _ hg, main vs h (fun j v hv => ?_)⟩
    obtain ⟨h0, _, _, ces, h1, _, _, h2⟩ := hR.blk i _ hg
    obtain ⟨c, hc, hr⟩ := h2 j v hv
    exact ⟨c, by simp [World.cell?, h1, h0, hc], hr⟩
  · rename_i vs hg
    exact ⟨hR.dom i _ hg, main vs h (hR.blk i _ hg).2.2⟩
  · cases h

theorem writeL_length : ∀ (cs vs : List Value) (o : Nat), (writeL vs o cs).length = vs.length
  | [], vs, o => rfl
  | c :: cs, vs, o => by simp [writeL, writeL_length cs]
theorem writeL_get : ∀ (cs vs : List Value) (o k : Nat), o + cs.length ≤ vs.length → (writeL vs o cs)[k]? = if o ≤ k ∧ k < o + cs.length then cs[k - o]? else vs[k]?
  | [], vs, o, k, _ => by simp [writeL]; intro h1 h2; omega
  | c :: cs, vs, o, k, h => by
    simp only [List.length_cons] at h
    simp only [writeL]
    rw [writeL_get cs _ (o + 1) k (by simp; omega), List.getElem?_set]
    by_cases h1 : o + 1 ≤ k ∧ k < o + 1 + cs.length
    · rw [if_pos h1, if_pos (by simp; omega)]
      rw [show k - o = (k - (o + 1)) + 1 by omega, List.getElem?_cons_succ]
    · rw [if_neg h1]
      by_cases h2 : o = k
      · subst h2
        rw [if_pos rfl, if_pos (by omega), if_pos (by simp), Nat.sub_self]; rfl
      · rw [if_neg h2, if_neg (by simp; omega)]
theorem seg_get (cur : List Value) (o : Nat) (cs : List Value) (h : o + cs.length ≤ cur.length) (k : Nat) :
    (cur.take o ++ cs ++ cur.drop (o + cs.length))[k]? = if o ≤ k ∧ k < o + cs.length then cs[k - o]? else cur[k]? := by
  by_cases h1 : k < o
  · rw [if_neg (by omega), List.append_assoc, List.getElem?_append_left (by simp; omega), List.getElem?_take_of_lt h1]
  · by_cases h2 : k < o + cs.length
    · rw [if_pos ⟨by omega, h2⟩, List.append_assoc, List.getElem?_append_right (by simp; omega), List.getElem?_append_left (by simp; omega)]
      congr 1; simp; omega
    · rw [if_neg (by omega), List.getElem?_append_right (by simp; omega), List.getElem?_drop]
      congr 1; simp; omega

theorem heap_setRow_ne (w : World) (g k : Nat) (c : Array Value) (h : k ≠ g) : (w.setRow g c).heap[k]? = w.heap[k]? := by
  simp only [World.setRow, Array.getElem?_modify]
  rw [if_neg (fun e => h e.symm)]

/-- Some cells of a standing row are written. -/
theorem write_snd (hR : Rel G σ H n w) {i o : Nat} {vs cs ds : List Value} {t : TypeId} {es : Nat} (hg : H.get i = some (.cells vs t es)) (hlo : lo ≤ i) (hl : o + cs.length ≤ vs.length) (hd : ds.length = cs.length)
    (hr : ∀ (j : Nat) (x y : Value), cs[j]? = some x → ds[j]? = some y → VR σ n x y) (h1 : ∀ y ∈ ds, y.oneCell' = true) :
    SndU P G lo σ H n w (storeCells ⟨(σ i).blk, (σ i).off + o, none⟩ ds) (H.upd i (some (.cells (writeL vs o cs) t es))) n := by
  obtain ⟨h0, hw, he, ces, hh, hs, hv, hc⟩ := hR.blk i _ hg
  have hfit : o + ds.length ≤ ces.size := by omega
  have hrun := run_storeCells_at P (σ i).blk o t ds 0 ces w hh (by simpa using hfit) h1
  simp only [Nat.add_zero] at hrun
  rw [h0, Nat.zero_add]
  refine ⟨_, σ, hrun, ?_, ?_⟩
  · have hzz : (w.setRow (σ i).blk (List.take o ces.toList ++ ds ++ List.drop (o + ds.length) ces.toList).toArray).heap.size = w.heap.size := by simp [World.setRow]
    refine hR.write hg rfl rfl (by rw [hzz]; exact Nat.le_refl _) (fun k hk => heap_setRow_ne w _ k _ hk) ?_
    refine ⟨h0, hw, he, _, setRow_heap w _ ces _ t _ hh, ?_, ?_, fun k v hk => ?_⟩
    · simp; omega
    · rw [writeL_length]; simp; omega
    · rw [writeL_get _ _ _ _ hl] at hk
      simp only [List.getElem?_toArray]
      rw [seg_get _ _ _ (by simpa using hfit), hd]
      split at hk
      · rename_i hk1
        rw [if_pos hk1]
        have : k - o < ds.length := by omega
        exact ⟨ds[k - o], List.getElem?_eq_getElem this, hr _ _ _ hk (List.getElem?_eq_getElem this)⟩
      · rename_i hk1
        rw [if_neg hk1]
        simpa using hc k v hk
  · exact Moves.write hR hlo hg rfl (fun c e => by cases e; rfl) rfl rfl rfl (by simp [World.setRow]) (fun k hk => heap_setRow_ne w _ k _ hk)

end Go.AL
