/- Each operation of the abstract machine is the model's: len, copy, clear, what is gone through, conversions, comparisons. -/
import Derived.Test.YtonhkjkdmfaodaaGreatDoorALOps7
set_option linter.unusedVariables false
set_option linter.unusedSimpArgs false
namespace Go.AL
open Go.RowKit

variable {P : Program} {G lo : Nat} {σ : Nat → Loc} {H H' : Heap} {n n' : Nat} {w : World}

theorem Snd.pure {s : Sem Value} {v v' : Value} (hR : Rel G σ H n w) (h1 : s.run P w = .ok v' w) (h2 : VR σ n v v') : Snd P G lo σ H n w s v H n := ⟨v', w, σ, h1, h2, hR, Moves.refl hR⟩

theorem len_snd (hR : Rel G σ H n w) {t ty : TypeId} {x x' v : Value} (hx : VR σ n x x') (h : aLen P t x H n = some (v, H', n')) : Snd P G lo σ H n w (Builtin.len_ #[t] ty #[x']) v H' n' := by
  unfold aLen at h
  split at h
  · rename_i e a k c hu
    cases h
    have form : ∃ b c', x' = .slice b k c' := by
      cases a with
      | none => obtain ⟨rfl, rfl, rfl⟩ := hx.nil_inv; exact ⟨_, _, rfl⟩
      | some a =>
        obtain ⟨i, o, sp⟩ := a
        cases sp with
        | some sp => cases hx with
          | rig h => simp [rigid, sc2, sc1, sc0] at h
        | none => obtain ⟨_, a', cc, rfl, _⟩ := hx.sl_inv; exact ⟨_, _, rfl⟩
    obtain ⟨b, c', rfl⟩ := form
    exact .pure hR (by simp [Builtin.len_, run_underlying hu]) (.rig rfl)
  · rename_i s hu
    cases h
    rw [hx.str_inv]
    exact .pure hR (by simp [Builtin.len_, run_underlying hu]) (.rig rfl)
  · rename_i a b hu
    cases h
    rw [hx.mapnil_inv]
    exact .pure hR (by simp [Builtin.len_, run_underlying hu]) (.rig rfl)
  · rename_i a b i hu
    obtain ⟨hi, hoff, rfl⟩ := hx.map_inv
    split at h
    · rename_i es clock hg
      cases h
      obtain ⟨_, _, cs, hh, hE⟩ := mapBlk hR hg
      have hl : cs.size = es.length := by simpa using hE.1
      exact .pure hR (by simp [Builtin.len_, run_underlying hu, run_getObj' (P := P) hh (by intros; simp), hl]) (.rig rfl)
    · cases h
  · rename_i k e hu
    cases h
    exact .pure hR (by simp [Builtin.len_, run_underlying hu]) (.rig rfl)
  · cases h

theorem copySrc (hR : Rel G σ H n w) {e : TypeId} {x x' : Value} {m len : Nat} {cs : List Value} (hx : VR σ n x x') (hm : lenA x = some m) (hcs : copyCells (szOf P e) (Nat.min m len) x H = some cs) :
    (Builtin.lenOf x').run P w = .ok m w ∧ ∃ ds : List Value, ds.length = cs.length ∧ (∀ (j : Nat) (a b : Value), cs[j]? = some a → ds[j]? = some b → VR σ n a b) ∧
          (Builtin.firstCells (szOf P e) (Nat.min m len) x').run P w = .ok ds.toArray w ∧ (len = 0 → cs = []) := by
  unfold copyCells at hcs
  unfold lenA at hm
  split at hcs
  · cases hcs
    obtain ⟨q1, q2, rfl⟩ := hx.nil_inv
    simp only [Option.some.injEq] at hm
    subst hm q1
    exact ⟨by simp [Builtin.lenOf], [], rfl, by simp, by simp [Builtin.firstCells], by simp⟩
  · rename_i i o m' c'
    simp only [Option.some.injEq] at hm
    subst hm
    obtain ⟨hi, a, cc, rfl, hs, _, _, _, hA⟩ := hx.sl_inv
    obtain ⟨_, hl, ds, hdl, hrel, hc⟩ := read_snd hR hcs
    refine ⟨by simp [Builtin.lenOf], ds, by omega, hrel, ?_, fun h0 => ?_⟩
    · rcases hA with rfl | ⟨rfl, _⟩
      · have := run_loadCells_list (P := P) w _ ds hc
        rw [hdl] at this
        simpa [Builtin.firstCells] using this
      · have h0 : Nat.min 0 len = 0 := Nat.zero_min len
        rw [h0] at hdl ⊢
        rw [Nat.zero_mul] at hdl
        have : ds = [] := List.eq_nil_of_length_eq_zero hdl
        subst this
        simp [Builtin.firstCells, loadCells, loadCellsFrom]
    · subst h0
      have : Nat.min m' 0 = 0 := Nat.min_zero m'
      rw [this, Nat.zero_mul] at hl
      exact List.eq_nil_of_length_eq_zero hl
  · rename_i s
    cases hcs
    simp only [Option.some.injEq] at hm
    subst hm
    rw [hx.str_inv]
    refine ⟨by simp [Builtin.lenOf], _, rfl, fun j a b ha hb => ?_, ?_, fun h0 => ?_⟩
    · rw [ha] at hb
      cases hb
      simp only [List.getElem?_map, Option.map_eq_some_iff] at ha
      obtain ⟨c, _, rfl⟩ := ha
      exact .rig rfl
    · simp only [Builtin.firstCells, Sem.run_pure]
      congr 1
      apply Array.ext'
      simp
    · subst h0
      have : Nat.min s.size 0 = 0 := Nat.min_zero _
      rw [this]
      simp
  · cases hcs

theorem copy_snd (hR : Rel G σ H n w) {t ty : TypeId} {ts : List TypeId} {d d' x x' v : Value} (hd : VR σ n d d') (hx : VR σ n x x') (h : aCopy P lo t d x H n = some (v, H', n')) :
    Snd P G lo σ H n w (Builtin.copy_ (t :: ts).toArray ty #[d', x']) v H' n' := by
  unfold aCopy at h
  split at h
  case h_2 => cases h
  rename_i a len c e he
  obtain ⟨ht, hpos⟩ := sliceElem_some he
  have hsz := fun W => run_sz (P := P) hpos W
  split at h
  case h_2 => cases h
  rename_i m hm
  split at h
  · rename_i hcs
    cases h
    obtain ⟨hl, ds, hdl, hrel, hf, _⟩ := copySrc hR hx hm hcs
    have : ds = [] := List.eq_nil_of_length_eq_zero hdl
    subst this
    have form : ∃ b c', d' = .slice b len c' := by
      cases a with
      | none => obtain ⟨rfl, rfl, rfl⟩ := hd.nil_inv; exact ⟨_, _, rfl⟩
      | some a =>
        obtain ⟨i, o, sp⟩ := a
        cases sp with
        | some sp => cases hd with
          | rig h => simp [rigid, sc2, sc1, sc0] at h
        | none => obtain ⟨_, a', cc, rfl, _⟩ := hd.sl_inv; exact ⟨_, _, rfl⟩
    obtain ⟨b, c', rfl⟩ := form
    refine .pure hR ?_ (.rig rfl)
    simp only [Builtin.copy_, List.getElem?_toArray, List.getElem?_cons_zero, List.getElem?_cons_succ, Sem.run_bind, run_underlying ht, Result.andThen_ok, hl, hsz, hf]
    cases b <;> simp [storeCells]
  · rename_i cs hne hcs
    obtain ⟨hl, ds, hdl, hrel, hf, h0⟩ := copySrc hR hx hm hcs
    split at h
    case h_2 => cases h
    rename_i i o
    split at h
    case h_2 => cases h
    rename_i vs t' es hg
    split at h
    case isFalse => cases h
    rename_i hc
    obtain ⟨hlo, hfit, h1⟩ := hc
    cases h
    obtain ⟨hi, a', cc, rfl, _, _, _, _, hA⟩ := hd.sl_inv
    rcases hA with rfl | ⟨rfl, _⟩
    case inr => exact absurd (h0 rfl) (fun e => hne e)
    have h1d : ∀ y ∈ ds, y.oneCell' = true := by
      intro y hy
      obtain ⟨j, hj, rfl⟩ := List.getElem_of_mem hy
      have hj' : j < cs.length := by omega
      rw [(hrel j _ _ (List.getElem?_eq_getElem hj') (List.getElem?_eq_getElem hj)).oneCell]
      exact List.all_eq_true.1 h1 _ (List.getElem_mem _)
    obtain ⟨w', σ', q1, q2, q3⟩ := write_snd (P := P) (o := o) hR hg hlo hfit hdl hrel h1d
    refine ⟨goInt (Nat.min m len), w', σ', ?_, .rig rfl, q2, q3⟩
    simp only [Builtin.copy_, List.getElem?_toArray, List.getElem?_cons_zero, List.getElem?_cons_succ, Sem.run_bind, run_underlying ht, Result.andThen_ok, hl, hsz, hf, q1, Sem.run_pure]
  · cases h

theorem zeroCells_get (z : Array Value) (k j : Nat) (h : j < k * z.size) : (Builtin.zeroCells z k)[j]? = z[j % z.size]? := by
  have hz : 0 < z.size := by rcases Nat.eq_zero_or_pos z.size with e | e; rw [e] at h; simp at h; exact e
  have hm : j % z.size < z.size := Nat.mod_lt _ hz
  simp only [Builtin.zeroCells, Array.getElem?_map]
  rw [Array.getElem?_eq_getElem (by simpa using h)]
  simp [getElem!_pos, hm]

theorem clear_snd (hR : Rel G σ H n w) {t ty : TypeId} {x x' v : Value} (hx : VR σ n x x') (h : aClear P lo t x H n = some (v, H', n')) : Snd P G lo σ H n w (Builtin.clear_ #[t] ty #[x']) v H' n' := by
  unfold aClear at h
  split at h
  · rename_i k c e he
    obtain ⟨ht, _⟩ := sliceElem_some he
    cases h
    obtain ⟨rfl, rfl, rfl⟩ := hx.nil_inv
    exact .pure hR (by simp [Builtin.clear_, run_underlying ht]) (.rig rfl)
  · rename_i i o k c e he
    obtain ⟨ht, hpos⟩ := sliceElem_some he
    obtain ⟨hi, a', cc, rfl, _, _, _, _, hA⟩ := hx.sl_inv
    split at h
    · rename_i hk
      cases h
      subst hk
      exact .pure hR (by simp [Builtin.clear_, run_underlying ht]) (.rig rfl)
    · rename_i hk
      split at h
      case h_2 => cases h
      rename_i vs t' es z hg hz
      split at h
      case isFalse => cases h
      rename_i hc
      obtain ⟨hlo, hfit, h1⟩ := hc
      cases h
      rcases hA with rfl | ⟨rfl, _⟩
      case inr => exact absurd rfl hk
      have hlen : (Builtin.zeroCells z.cells k).toList.length = (zerosL z.cells.toList k).length := by simp [zerosL_length, zeroCells_size]
      obtain ⟨_, hzr⟩ := (VR.rig (σ := σ) (n := n) (rigid_of_sc2 (zero_sc2 hz).1)).cells
      obtain ⟨w', σ', q1, q2, q3⟩ := write_snd (P := P) (o := o) (ds := (Builtin.zeroCells z.cells k).toList) hR hg hlo hfit hlen (fun j a b ha hb => by
          have hj : j < k * z.cells.toList.length := by have := (List.getElem?_eq_some_iff.1 ha).1; rwa [zerosL_length] at this
          rw [zerosL_get _ _ _ hj] at ha
          rw [Array.getElem?_toList, zeroCells_get _ _ _ (by simpa using hj)] at hb
          exact hzr _ a b (by simpa using ha) hb) (by
          intro y hy
          obtain ⟨j, hj, rfl⟩ := List.getElem_of_mem hy
          have hj' : j < k * z.cells.size := by simpa [zeroCells_size] using hj
          have hpz : 0 < z.cells.size := by rcases Nat.eq_zero_or_pos z.cells.size with e | e; rw [e] at hj'; simp at hj'; exact e
          have hm : j % z.cells.size < z.cells.size := Nat.mod_lt _ hpz
          have : (Builtin.zeroCells z.cells k).toList[j]? = z.cells[j % z.cells.size]? := by rw [Array.getElem?_toList, zeroCells_get _ _ _ hj']
          rw [List.getElem?_eq_getElem hj, Array.getElem?_eq_getElem hm] at this
          simp only [Option.some.injEq] at this
          rw [this]
          exact List.all_eq_true.1 h1 _ (by simp))
      refine ⟨.tuple #[], w', σ', ?_, .rig rfl, q2, q3⟩
      have hk' : ∀ a, (match (some (TypeDesc.slice e), Value.slice (some a) k cc) with | (_, .slice _ 0 _) => false | _ => true) = true := by
        intro a; cases k <;> simp_all
      cases k with
      | zero => exact absurd rfl hk
      | succ k => simp [Builtin.clear_, run_underlying ht, run_zero hz, q1]
  · cases h

theorem range_snd (hR : Rel G σ H n w) {t : TypeId} {x x' v : Value} (hx : VR σ n x x') (h : aRange P t x H n = some (v, H', n')) : Snd P G lo σ H n w (Instr.range t x') v H' n' := by
  have newp : ∀ (b : Blk) (o : Obj), BR (put1 σ n ⟨w.heap.size, 0, 0, 0, true, true⟩) (n + 1) (w.alloc o) n b → (Instr.range t x').run P w = .ok (.pointer (some ⟨w.heap.size, 0, none⟩)) (w.alloc o) →
      Snd P G lo σ H n w (Instr.range t x') (ptr n 0) (H.upd n (some b)) (n + 1) := by
    intro b o hb hrun
    refine ⟨_, _, _, hrun, ?_, hR.alloc (l := ⟨w.heap.size, 0, 0, 0, true, true⟩) rfl hb, Moves.alloc hR o ⟨w.heap.size, 0, 0, 0, true, true⟩ _ rfl⟩
    have := VR.ptr (σ := put1 σ n ⟨w.heap.size, 0, 0, 0, true, true⟩) (n := n + 1) (i := n) (o := 0) ⟨by omega, by rw [put1_new]⟩
    rw [put1_new] at this
    exact this
  unfold aRange at h
  split at h
  · rename_i s hu
    cases h
    rw [hx.str_inv] at newp ⊢
    exact newp _ (.stringIter s 0) ⟨by rw [put1_new], by rw [put1_new]; exact heap_new w _⟩ (by simp only [Instr.range, Sem.run_bind, run_underlying hu, Result.andThen_ok, Sem.run_pure, run_newObj, World.alloc_eq])
  · rename_i a b hu
    cases h
    rw [hx.mapnil_inv] at newp ⊢
    exact newp _ (.mapIter none 0 #[] 0) ⟨by rw [put1_new], by simp, by rw [put1_new]; exact heap_new w _⟩ (by simp only [Instr.range, Sem.run_bind, run_underlying hu, Result.andThen_ok, Sem.run_pure, run_newObj, World.alloc_eq])
  · rename_i a b i hu
    obtain ⟨hi, hoff, rfl⟩ := hx.map_inv
    split at h
    · rename_i es clock hg
      cases h
      obtain ⟨_, _, cs, hh, hE⟩ := mapBlk hR hg
      refine newp _ (.mapIter (some (σ i).blk) clock #[] clock) ⟨by rw [put1_new], fun j hj => ?_, by rw [put1_new, Option.map_some, put1_same σ n _ i hi.1]; exact heap_new w _⟩ ?_
      · cases hj; exact ⟨hi.mono (fun k hk => put1_same σ n _ k hk.1) (by omega), by rw [put1_same σ n _ i hi.1]; exact hoff⟩
      · simp only [Instr.range, Sem.run_bind, run_underlying hu, Result.andThen_ok, run_getObj' (P := P) hh (by intros; simp), Sem.run_pure, run_newObj, World.alloc_eq]
    · cases h
  · cases h

theorem nextS_snd (hR : Rel G σ H n w) {ty : TypeId} {x x' v : Value} (hx : VR σ n x x') (h : aNextS lo x H n = some (v, H', n')) : Snd P G lo σ H n w (Instr.next x' true ty) v H' n' := by
  unfold aNextS at h
  split at h
  case h_2 => cases h
  rename_i i
  obtain ⟨hi, rfl⟩ := hx.ptr_inv
  split at h
  case h_2 => cases h
  rename_i s pos hg
  obtain ⟨hoff, hh⟩ := hR.blk i _ hg
  have hget := run_getObj' (P := P) hh (by intros; simp)
  rw [hoff]
  split at h
  case isFalse => cases h
  rename_i hlo
  split at h
  · rename_i hp
    cases h
    obtain ⟨q1, q2⟩ := obj_snd (o := .stringIter s (pos + (Utf8.decode s pos).2)) (b' := .sit s (pos + (Utf8.decode s pos).2)) hR hg rfl rfl hlo hh ⟨hoff, set_heap_same w _ _ _ hh⟩
    refine ⟨_, _, σ, ?_, .rig rfl, q1, q2⟩
    simp only [Instr.next, Nat.zero_add, Sem.run_bind, hget, Result.andThen_ok, hp, if_true, run_setObj' (P := P) hh (by intros; simp), Sem.run_pure]
  · rename_i hp
    cases h
    exact .pure hR (by simp only [Instr.next, Nat.zero_add, Sem.run_bind, hget, Result.andThen_ok, hp, if_false, Sem.run_pure]) (.rig rfl)

end Go.AL
