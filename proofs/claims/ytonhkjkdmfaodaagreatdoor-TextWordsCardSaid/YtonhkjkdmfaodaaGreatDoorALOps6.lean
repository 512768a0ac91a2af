/- Each operation of the abstract machine is the model's: structs and arrays as values. -/
import Derived.Test.YtonhkjkdmfaodaaGreatDoorALOps5
set_option linter.unusedVariables false
set_option linter.unusedSimpArgs false
namespace Go.AL
open Go.RowKit

variable {P : Program} {G lo : Nat} {σ : Nat → Loc} {H H' : Heap} {n n' : Nat} {w : World}

theorem run_mapM {α β : Type} {f : α → Sem β} {g : α → β} : ∀ (l : List α) (w : World), (∀ x ∈ l, (f x).run P w = .ok (g x) w) → (l.mapM f).run P w = .ok (l.map g) w
  | [], w, _ => by simp
  | x :: l, w, h => by
    rw [List.mapM_cons]
    simp [h x (by simp), run_mapM l w (fun y hy => h y (by simp [hy]))]

theorem fill_rel {t : TypeId} {place : Nat → Option (Nat × Nat)} (hp : ∀ i off ft, fieldOf P t i = some (off, ft) → place i = some (off, szOf P ft)) : ∀ (ps qs : List (Nat × Value)) (cs : List Value) (arr : Array Value) (cs' : List Value),
    ps.length = qs.length → (∀ (j : Nat) (p q : Nat × Value), ps[j]? = some p → qs[j]? = some q → p.1 = q.1 ∧ VR σ n p.2 q.2) → cs.length = arr.size → (∀ (j : Nat) (a b : Value), cs[j]? = some a → arr[j]? = some b → VR σ n a b) →
    fillS P t cs ps = some cs' → ∃ arr', Instr.fill place arr qs = some arr' ∧ cs'.length = arr'.size ∧ ∀ (j : Nat) (a b : Value), cs'[j]? = some a → arr'[j]? = some b → VR σ n a b
  | [], [], cs, arr, cs', _, _, hl, hr, h => by simp only [fillS, Option.some.injEq] at h; subst h; exact ⟨arr, rfl, hl, hr⟩
  | [], _ :: _, cs, arr, cs', hl, _, _, _, h => by simp at hl
  | _ :: _, [], cs, arr, cs', hl, _, _, _, h => by simp at hl
  | (i, v) :: ps, (i', v') :: qs, cs, arr, cs', hl, hr, hcl, hcr, h => by
    obtain ⟨e, hv⟩ := hr 0 _ _ rfl rfl
    simp only at e hv
    subst e
    simp only [fillS] at h
    split at h
    case h_2 => cases h
    rename_i off ft hf
    split at h
    case isFalse => cases h
    rename_i hc
    obtain ⟨hvl, hfit⟩ := hc
    obtain ⟨hsz, hcell⟩ := hv.cells
    have hvl' : v.cells.size = szOf P ft := by simpa using hvl
    obtain ⟨arr', h1, h2, h3⟩ := fill_rel hp ps qs (writeL cs off v.cells.toList) ((writeL arr.toList off v'.cells.toList).toArray) cs' (by simpa using hl) (fun j p q hp hq => hr (j + 1) p q (by simpa using hp) (by simpa using hq))
      (by simp [writeL_length, hcl]) (fun j a b ha hb => by
        simp only [List.getElem?_toArray] at hb
        rw [writeL_get _ _ _ _ hfit] at ha
        rw [writeL_get _ _ _ _ (by simp [← hsz, ← hcl]; simpa using hfit)] at hb
        have e2 : v'.cells.toList.length = v.cells.toList.length := by simp [hsz]
        rw [e2] at hb
        split at ha
        · rename_i hj
          rw [if_pos hj] at hb
          exact hcell _ a b (by rw [← Array.getElem?_toList]; exact ha) (by rw [← Array.getElem?_toList]; exact hb)
        · rename_i hj
          rw [if_neg hj] at hb
          exact hcr j a b ha (by rw [← Array.getElem?_toList]; exact hb)) h
    refine ⟨arr', ?_, h2, h3⟩
    simp only [Instr.fill, hp i off ft hf]
    rw [if_neg (by rw [← hsz, hvl']; simp; rw [← hcl, ← hvl']; simpa using hfit), fold_write]
    exact h1

theorem fillA_rel {sz : Nat} : ∀ (ps qs : List (Nat × Value)) (cs : List Value) (arr : Array Value) (cs' : List Value),
    ps.length = qs.length → (∀ (j : Nat) (p q : Nat × Value), ps[j]? = some p → qs[j]? = some q → p.1 = q.1 ∧ VR σ n p.2 q.2) → cs.length = arr.size → (∀ (j : Nat) (a b : Value), cs[j]? = some a → arr[j]? = some b → VR σ n a b) →
    fillA sz cs ps = some cs' → ∃ arr', Instr.fill (fun i => some (i * sz, sz)) arr qs = some arr' ∧ cs'.length = arr'.size ∧ ∀ (j : Nat) (a b : Value), cs'[j]? = some a → arr'[j]? = some b → VR σ n a b
  | [], [], cs, arr, cs', _, _, hl, hr, h => by simp only [fillA, Option.some.injEq] at h; subst h; exact ⟨arr, rfl, hl, hr⟩
  | [], _ :: _, cs, arr, cs', hl, _, _, _, h => by simp at hl
  | _ :: _, [], cs, arr, cs', hl, _, _, _, h => by simp at hl
  | (i, v) :: ps, (i', v') :: qs, cs, arr, cs', hl, hr, hcl, hcr, h => by
    obtain ⟨e, hv⟩ := hr 0 _ _ rfl rfl
    simp only at e hv
    subst e
    simp only [fillA] at h
    split at h
    case isFalse => cases h
    rename_i hc
    obtain ⟨hvl, hfit⟩ := hc
    obtain ⟨hsz, hcell⟩ := hv.cells
    have hvl' : v.cells.size = sz := by simpa using hvl
    obtain ⟨arr', h1, h2, h3⟩ := fillA_rel ps qs (writeL cs (i * sz) v.cells.toList) ((writeL arr.toList (i * sz) v'.cells.toList).toArray) cs' (by simpa using hl) (fun j p q hp hq => hr (j + 1) p q (by simpa using hp) (by simpa using hq))
      (by simp [writeL_length, hcl]) (fun j a b ha hb => by
        simp only [List.getElem?_toArray] at hb
        rw [writeL_get _ _ _ _ hfit] at ha
        rw [writeL_get _ _ _ _ (by simp [← hsz, ← hcl]; simpa using hfit)] at hb
        have e2 : v'.cells.toList.length = v.cells.toList.length := by simp [hsz]
        rw [e2] at hb
        split at ha
        · rename_i hj
          rw [if_pos hj] at hb
          exact hcell _ a b (by rw [← Array.getElem?_toList]; exact ha) (by rw [← Array.getElem?_toList]; exact hb)
        · rename_i hj
          rw [if_neg hj] at hb
          exact hcr j a b ha (by rw [← Array.getElem?_toList]; exact hb)) h
    refine ⟨arr', ?_, h2, h3⟩
    simp only [Instr.fill]
    rw [if_neg (by rw [← hsz, hvl']; rw [hvl] at hfit; simp; omega), fold_write]
    exact h1

theorem build_snd {t : TypeId} {ps : List (Nat × Value)} {qs : Array (Nat × Value)} {v : Value} (hl : ps.length = qs.size)
    (hr : ∀ (j : Nat) (p q : Nat × Value), ps[j]? = some p → qs[j]? = some q → p.1 = q.1 ∧ VR σ n p.2 q.2) (h : aBuild P t ps = some v) : SndV P σ n w (Instr.build t qs) v := by
  unfold aBuild at h
  split at h
  case h_2 => cases h
  rename_i z hz
  have hzr : ∀ (j : Nat) (a b : Value), z.cells.toList[j]? = some a → z.cells[j]? = some b → VR σ n a b := by
    intro j a b ha hb
    obtain ⟨_, hc⟩ := (VR.rig (σ := σ) (n := n) (rigid_of_sc2 (zero_sc2 hz).1)).cells
    exact hc j a b (by rw [← Array.getElem?_toList]; exact ha) hb
  have hq : ∀ (j : Nat) (p q : Nat × Value), ps[j]? = some p → qs.toList[j]? = some q → p.1 = q.1 ∧ VR σ n p.2 q.2 := fun j p q h1 h2 => hr j p q h1 (by rw [← Array.getElem?_toList]; exact h2)
  split at h
  · rename_i fs hu
    split at h
    case isFalse => cases h
    rename_i hall
    split at h
    case h_2 => cases h
    rename_i cs hf
    cases h
    have hm := run_mapM (P := P) (f := fun f : Field => (do pure (f.offset, ← sizeOf f.type) : Sem (Nat × Nat))) (g := fun f => (f.offset, szOf P f.type)) fs.toList w (fun f hf' => by
      rw [List.all_eq_true] at hall
      obtain ⟨i, hi⟩ := Option.isSome_iff_exists.1 (hall f hf')
      simp [sizeOf, run_info hi, szOf, hi])
    obtain ⟨arr', h1, h2, h3⟩ := fill_rel (P := P) (σ := σ) (n := n) (t := t) (place := fun i => ((fs.toList.map fun f => (f.offset, szOf P f.type)).toArray)[i]?) (fun i off ft hfo => by
      unfold fieldOf at hfo
      rw [hu] at hfo
      simp only at hfo
      split at hfo
      · rename_i d hd
        cases hfo
        simp [hd]
      · cases hfo) ps qs.toList z.cells.toList z.cells cs (by simpa using hl) hq (by simp) hzr hf
    refine ⟨.agg arr', ?_, .agg (by simpa using h2) (fun k x y hx hy => h3 k x y (by simpa using hx) hy)⟩
    simp only [Instr.build, Sem.run_bind, run_zero hz, Result.andThen_ok, run_underlying hu, Array.mapM_eq_mapM_toList, Sem.run_map, hm, h1, Sem.run_pure]
  · rename_i k e hu
    split at h
    case isFalse => cases h
    rename_i hpos
    split at h
    case h_2 => cases h
    rename_i cs hf
    cases h
    obtain ⟨arr', h1, h2, h3⟩ := fillA_rel (σ := σ) (n := n) ps qs.toList z.cells.toList z.cells cs (by simpa using hl) hq (by simp) hzr hf
    refine ⟨.agg arr', ?_, .agg (by simpa using h2) (fun k x y hx hy => h3 k x y (by simpa using hx) hy)⟩
    simp only [Instr.build, Sem.run_bind, run_zero hz, Result.andThen_ok, run_underlying hu, run_sz hpos, h1, Sem.run_pure]
  · cases h

theorem part_snd {e : TypeId} {cs ds : Array Value} {off : Nat} {v : Value} (hs : cs.size = ds.size) (hr : ∀ (k : Nat) (x y : Value), cs[k]? = some x → ds[k]? = some y → VR σ n x y) (hu : (P.underlying e).isSome = true)
    (h : (if aggT P e then some (Value.agg (cs.extract off (off + szOf P e))) else cs[off]?) = some v) : SndV P σ n w (part e ds off) v := by
  obtain ⟨d, hu⟩ := Option.isSome_iff_exists.1 hu
  split at h
  · rename_i ha
    cases h
    refine ⟨.agg (ds.extract off (off + szOf P e)), by simp [part, run_aggT hu, ha, run_sz' hu], .agg (by simp [hs]) (fun k x y hx hy => ?_)⟩
    rw [Array.getElem?_extract] at hx hy
    split at hx
    · split at hy
      · exact hr _ _ _ hx hy
      · cases hy
    · cases hx
  · rename_i ha
    have hf : aggT P e = false := by simpa using ha
    have hlt : off < ds.size := by have := (Array.getElem?_eq_some_iff.1 h).1; omega
    refine ⟨ds[off], ?_, hr off v _ h (Array.getElem?_eq_getElem hlt)⟩
    simp [part, run_aggT hu, hf, Array.getElem?_eq_getElem hlt]

theorem field_snd {t : TypeId} {x x' v : Value} {f : Nat} (hx : VR σ n x x') (h : aField P t x f = some v) : SndV P σ n w (Instr.field t x' f) v := by
  unfold aField at h
  split at h
  · rename_i cs off ft hf
    split at h
    case isFalse => cases h
    rename_i hu
    obtain ⟨ds, rfl, hs, hr⟩ := hx.agg_inv
    obtain ⟨v', h1, h2⟩ := part_snd (P := P) (w := w) hs hr hu h
    unfold fieldOf at hf
    split at hf
    · rename_i fs hfs
      split at hf
      · rename_i d hd
        cases hf
        exact ⟨v', by simpa [Instr.field, run_underlying hfs, hd, asAgg] using h1, h2⟩
      · cases hf
    · cases hf
  · cases h

theorem indexAgg_snd {t : TypeId} {x x' j j' v : Value} (hx : VR σ n x x') (hj : VR σ n j j') (h : aIndexAgg P t x j = some v) : SndV P σ n w (Instr.index t x' j') v := by
  unfold aIndexAgg at h
  split at h
  · rename_i cs k jj len e he
    obtain ⟨hu, hpos⟩ := arrayElem_some he
    split at h
    case isFalse => cases h
    rename_i hb
    obtain ⟨hb0, hb1, hue⟩ := hb
    obtain ⟨ds, rfl, hs, hr⟩ := hx.agg_inv
    obtain ⟨v', h1, h2⟩ := part_snd (P := P) (w := w) hs hr hue h
    rw [hj.int_inv]
    exact ⟨v', by simpa [Instr.index, asIntOf, run_underlying hu, hb0, hb1, run_sz hpos] using h1, h2⟩
  · cases h

end Go.AL
