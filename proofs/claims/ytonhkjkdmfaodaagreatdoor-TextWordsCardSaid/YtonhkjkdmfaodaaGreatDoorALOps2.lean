/- Each operation of the abstract machine is the model's: making, loading, storing, places. -/
import Derived.Test.YtonhkjkdmfaodaaGreatDoorALOps
set_option linter.unusedVariables false
set_option linter.unusedSimpArgs false
namespace Go.AL
open Go.RowKit

variable {P : Program} {G lo : Nat} {σ : Nat → Loc} {H H' : Heap} {n n' : Nat} {w : World}

theorem heap_new (w : World) (o : Obj) : (w.alloc o).heap[w.heap.size]? = some o := by
  show (w.heap.push o)[w.heap.size]? = some o
  simp
theorem newVar_snd (hR : Rel G σ H n w) {t : TypeId} {v v' : Value} (hv : VR σ n v v') :
    Snd P G lo σ H n w (do pure (.pointer (some (← newVar t v')))) (ptr n 0) (H.upd n (some (.cells v.cells.toList t (esOf P t)))) (n + 1) := by
  obtain ⟨hs, hc⟩ := hv.cells
  let l : Loc := ⟨w.heap.size, 0, v'.cells.size, esOf P t, true, true⟩
  refine ⟨_, w.alloc (.cells v'.cells t), put1 σ n l, by simp [newVar, newRow]; rfl, ?_, hR.alloc (l := l) rfl ?_, Moves.alloc hR _ l _ rfl⟩
  · have := VR.ptr (σ := put1 σ n l) (n := n + 1) (i := n) (o := 0) ⟨by omega, by rw [put1_new]⟩
    rw [put1_new] at this
    exact this
  · refine ⟨by rw [put1_new], by rw [put1_new], by rw [put1_new], v'.cells, ?_, by rw [put1_new], by simp; omega, fun k x hk => ?_⟩
    · rw [put1_new]; exact heap_new w _
    · have hx : v.cells[k]? = some x := by simpa using hk
      have hlt : k < v'.cells.size := by have := (Array.getElem?_eq_some_iff.1 hx).1; omega
      exact ⟨v'.cells[k], Array.getElem?_eq_getElem hlt, (hc k x _ hx (Array.getElem?_eq_getElem hlt)).mono (put1_same σ n l) (by omega)⟩

theorem box_snd (hR : Rel G σ H n w) {t : TypeId} {v v' x : Value} (hv : VR σ n v v') (h : aAlloc P t H n (some v) = some (x, H', n')) : Snd P G lo σ H n w (Instr.box t v') x H' n' := by
  simp only [aAlloc, Option.some.injEq, Prod.mk.injEq] at h
  obtain ⟨rfl, rfl, rfl⟩ := h
  exact newVar_snd hR hv
theorem alloc_snd (hR : Rel G σ H n w) {t : TypeId} {x : Value} (h : aAlloc P t H n (zeroOf P t) = some (x, H', n')) : Snd P G lo σ H n w (Instr.alloc t true (.tuple #[])) x H' n' := by
  cases hz : zeroOf P t with
  | none => rw [hz] at h; cases h
  | some z =>
    rw [hz] at h
    simp only [aAlloc, Option.some.injEq, Prod.mk.injEq] at h
    obtain ⟨rfl, rfl, rfl⟩ := h
    obtain ⟨v', w', σ', h1, h2⟩ := newVar_snd (P := P) (lo := lo) hR (t := t) (v := z) (v' := z) (.rig (rigid_of_sc2 (zero_sc2 hz).1))
    exact ⟨v', w', σ', by simpa [Instr.alloc, run_zero hz] using h1, h2⟩

theorem pack_snd {t : TypeId} {d : TypeDesc} (hu : P.underlying t = some d) {cs ds : List Value} {v : Value} (hl : ds.length = cs.length)
    (hr : ∀ (j : Nat) (x y : Value), cs[j]? = some x → ds[j]? = some y → VR σ n x y) (hp : pack P t cs = some v) : ∃ v', pack P t ds = some v' ∧ VR σ n v v' := by
  unfold pack at hp ⊢
  split at hp
  · cases hp
    rename_i ha
    exact ⟨_, if_pos ha, .agg (by simp [hl]) (fun k x y hx hy => hr k x y (by simpa using hx) (by simpa using hy))⟩
  · rename_i ha
    rw [if_neg ha]
    split at hp
    · cases hp
      obtain ⟨y, rfl⟩ : ∃ y, ds = [y] := by
        match ds, hl with
        | [y], _ => exact ⟨y, rfl⟩
      exact ⟨y, rfl, hr 0 _ _ rfl rfl⟩
    · cases hp

theorem load_same (hR : Rel G σ H n w) {t : TypeId} {a a' v : Value} (ha : VR σ n a a') (h : aLoad P t a H n = some (v, H', n')) : H' = H ∧ n' = n ∧ ∃ v', (Instr.loadAt t a').run P w = .ok v' w ∧ VR σ n v v' := by
  unfold aLoad at h
  split at h
  · rename_i i o
    split at h
    case isFalse => cases h
    rename_i hu
    obtain ⟨d, hu⟩ := Option.isSome_iff_exists.1 hu
    split at h
    · rename_i cs hrd
      split at h
      · rename_i v0 hpk
        cases h
        obtain ⟨hi, rfl⟩ := ha.ptr_inv
        obtain ⟨_, hl, ds, hdl, hr, hc⟩ := read_snd hR hrd
        obtain ⟨v', hp', hv'⟩ := pack_snd (σ := σ) (n := n) hu (by omega) hr hpk
        refine ⟨rfl, rfl, v', ?_, hv'⟩
        simp only [Instr.loadAt, Instr.sureAddr, pure_bind, loadVar, Sem.run_bind, run_aggT hu, Result.andThen_ok]
        unfold pack at hp'
        by_cases hagg : aggT P t = true
        · rw [if_pos hagg] at hp' hdl
          cases hp'
          have := run_loadCells_list (P := P) w _ ds hc
          rw [hdl] at this
          simp [hagg, run_sz' hu, this]
        · rw [if_neg hagg] at hp' hdl
          have hf : aggT P t = false := by simpa using hagg
          match ds, hdl with
          | [y], _ =>
            cases hp'
            have := hc 0 v' rfl
            rw [add_none] at this
            simp only [Nat.add_zero] at this
            simp [hf, this]
      · cases h
    · cases h
  · cases h

theorem load_snd (hR : Rel G σ H n w) {t : TypeId} {a a' v : Value} (ha : VR σ n a a') (h : aLoad P t a H n = some (v, H', n')) : Snd P G lo σ H n w (Instr.loadAt t a') v H' n' := by
  obtain ⟨rfl, rfl, v', h1, h2⟩ := load_same hR ha h
  exact ⟨v', w, σ, h1, h2, hR, Moves.refl hR⟩

theorem store_snd (hR : Rel G σ H n w) {t : TypeId} {a a' v v' x : Value} (ha : VR σ n a a') (hv : VR σ n v v') (h : aStore P lo t a v H n = some (x, H', n')) :
    x = undef ∧ SndU P G lo σ H n w (Instr.storeAt t a' v') H' n' := by
  unfold aStore at h
  split at h
  · rename_i i o
    split at h
    · rename_i vs t' es hg
      split at h
      · rename_i hc
        cases h
        obtain ⟨hlo, hpos, hsz, h1, hfit⟩ := hc
        obtain ⟨hi, rfl⟩ := ha.ptr_inv
        obtain ⟨hs, hcells⟩ := hv.cells
        refine ⟨rfl, ?_⟩
        have hd : v'.cells.toList.length = v.cells.toList.length := by simp [hs]
        obtain ⟨w', σ', h2, h3⟩ := write_snd (P := P) (ds := v'.cells.toList) hR hg hlo hfit hd (fun j x y hx hy => hcells j x y (by simpa using hx) (by simpa using hy)) (by
          intro y hy
          obtain ⟨j, hj, rfl⟩ := List.getElem_of_mem hy
          have hj' : j < v.cells.toList.length := by omega
          have hr := hcells j _ _ (by rw [← Array.getElem?_toList]; exact List.getElem?_eq_getElem hj') (by rw [← Array.getElem?_toList]; exact List.getElem?_eq_getElem hj)
          rw [hr.oneCell]
          exact List.all_eq_true.1 h1 _ (List.getElem_mem _))
        refine ⟨w', σ', ?_, h3⟩
        simp only [Instr.storeAt, Instr.sureAddr, pure_bind, storeVar, Sem.run_bind, run_sz hpos, Result.andThen_ok]
        have hvs : v'.cells.size = szOf P t := by rw [← hsz]; simp [hs]
        simp only [hvs, ne_eq, not_true_eq_false, if_false, pure_bind]
        exact h2
      · cases h
    · cases h
  · cases h

end Go.AL
