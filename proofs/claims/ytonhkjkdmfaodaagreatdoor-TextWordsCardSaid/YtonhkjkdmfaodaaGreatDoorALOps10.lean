/- Each operation of the abstract machine is the model's: an entry, conversions, comparisons. -/
import Derived.Test.YtonhkjkdmfaodaaGreatDoorALOps9
set_option linter.unusedVariables false
set_option linter.unusedSimpArgs false
namespace Go.AL
open Go.RowKit

variable {P : Program} {G lo : Nat} {σ : Nat → Loc} {H H' : Heap} {n n' : Nat} {w : World}

theorem entry_snd (hR : Rel G σ H n w) {x x' v : Value} (hx : VR σ n x x') (h : aEntry x H n = some (v, H', n')) : Snd P G lo σ H n w (Instr.entry x') v H' n' := by
  unfold aEntry at h
  split at h
  case h_2 => cases h
  rename_i i
  obtain ⟨hi, rfl⟩ := hx.ptr_inv
  split at h
  case h_2 => cases h
  rename_i m since seen stepped hg
  obtain ⟨hoff, hm, hh⟩ := hR.blk i _ hg
  have hget := run_getObj' (P := P) hh (by intros; simp)
  split at h
  case h_2 => cases h
  rename_i es clock b hgm hb
  obtain ⟨_, _, cs, hhm, hE⟩ := mapBlk hR hgm
  have hgetm := run_getObj' (P := P) hhm (by intros; simp)
  split at h
  case isFalse => cases h
  rename_i hst
  split at h
  case h_2 => cases h
  rename_i e he
  cases h
  have hback : seen.toArray.back? = some b := by rw [List.back?_toArray]; exact hb
  obtain ⟨c, hc, her⟩ : ∃ c, cs.find? (fun e => e.born == b) = some c ∧ ER σ n e c := by
    have main : ∀ (es cs : List MapEntry), ERs σ n es cs → es.find? (fun e => e.born == b) = some e → ∃ c, cs.find? (fun e => e.born == b) = some c ∧ ER σ n e c := by
      intro es
      induction es with
      | nil => intro cs _ h; cases h
      | cons a es ih =>
        intro cs hE h
        cases cs with
        | nil => simp [ERs] at hE
        | cons c cs =>
          have ha := hE.2 0 a c rfl rfl
          simp only [List.find?_cons, ha.born] at h ⊢
          split at h
          · rename_i hb; cases h; exact ⟨c, rfl, ha⟩
          · rename_i hb
            obtain ⟨c', h1, h2⟩ := ih cs ⟨by have := hE.1; simpa using this, fun k e' c' h3 h4 => hE.2 (k + 1) e' c' (by simpa using h3) (by simpa using h4)⟩ h
            exact ⟨c', h1, h2⟩
    obtain ⟨c, h1, h2⟩ := main es cs.toList hE he
    exact ⟨c, by rw [← Array.find?_toList]; exact h1, h2⟩
  have hne : (clock != stepped) = false := by simp [hst]
  refine .pure (v' := .tuple #[c.key, c.val]) hR ?_ ?_
  · rw [hoff]
    simp only [Instr.entry, Nat.zero_add, Sem.run_bind, hget, Result.andThen_ok, hback, Option.map_some, hgetm, hne, Bool.false_eq_true, if_false, hc, Sem.run_pure]
  · refine .tup rfl (fun k x y hx hy => ?_)
    rcases k with _ | _ | k
    · simp at hx hy; subst hx hy; exact her.key
    · simp at hx hy; subst hx hy; exact her.val
    · simp at hx

/-! ### Conversions -/
theorem runesFrom_eq (s : ByteArray) : ∀ (b i : Nat) (acc : Array Value), Conv.runesFrom s b i acc = acc ++ (runesL s b i).toArray
  | 0, i, acc => by simp [Conv.runesFrom, runesL]
  | b + 1, i, acc => by
    unfold Conv.runesFrom runesL
    split
    · simp only [runesFrom_eq s b]
      apply Array.ext'
      simp
    · simp

theorem runes_snd (hR : Rel G σ H n w) {e : TypeId} {s : ByteArray} :
    Snd P G lo σ H n w (Conv.stringToRunes e s) (.slice (some ⟨n, 0, none⟩) (runesL s s.size 0).length 1) (H.upd n (some (.cells (runesL s s.size 0) e 1))) (n + 1) := by
  let L := runesL s s.size 0
  have hL : ∀ v ∈ L, rigid v = true := by
    have : ∀ b i, ∀ v ∈ runesL s b i, rigid v = true := by
      intro b
      induction b with
      | zero => intro i v hv; simp [runesL] at hv
      | succ b ih =>
        intro i v hv
        unfold runesL at hv
        split at hv
        · rcases List.mem_cons.1 hv with rfl | hv
          · rfl
          · exact ih _ v hv
        · simp at hv
    exact this _ _
  have e0 : Conv.runesFrom s s.size 0 #[] = L.toArray := by rw [runesFrom_eq]; simp [L]
  let q := Question.appendCap L.length 0 e
  let cap := q.cut (w.tape w.drawn q)
  have hcap : L.length ≤ cap := by simp only [cap, q, Question.cut]; omega
  let arr : Array Value := L.toArray ++ Array.replicate (cap - L.length) (.int .i32 0)
  have hsz : arr.size = cap := by simp [arr]; omega
  let l : Loc := ⟨w.heap.size, 0, cap, 1, true, true⟩
  refine ⟨.slice (some ⟨w.heap.size, 0, none⟩) L.length cap, w.drew.alloc (.cells arr e), put1 σ n l, ?_, ?_, hR.drew.alloc (l := l) rfl ?_, (Moves.drew hR).trans (Moves.alloc hR.drew _ l _ rfl)⟩
  · have hforced : (Question.appendCap L.length 0 e).forced = false := rfl
    simp only [Conv.stringToRunes, e0, Sem.run_bind, run_choose, List.size_toArray, hforced, Bool.false_eq_true, if_false, Result.andThen_ok, newRow, run_newObj, Sem.run_pure, World.alloc_eq, World.drew_eq]
    rfl
  · have := VR.ptrs (σ := σ) (n := n) (l := l) (len := L.length) (cc := cap) hcap rfl rfl (by simp [l])
    exact this
  · refine ⟨by rw [put1_new], by rw [put1_new], by rw [put1_new], arr, by rw [put1_new]; exact heap_new w.drew _, by rw [put1_new, hsz], by rw [hsz]; exact hcap, fun k v hk => ?_⟩
    have hlt : k < L.length := (List.getElem?_eq_some_iff.1 hk).1
    refine ⟨v, ?_, .rig (hL v (List.mem_of_getElem? hk))⟩
    simp only [arr]
    rw [Array.getElem?_append_left (by simpa using hlt)]
    simpa using hk

theorem encode_run (f : Value → ByteArray → Sem (ForInStep ByteArray)) (hf : ∀ k r, f (.int .i32 k) r = pure (ForInStep.yield (r ++ Utf8.encode k))) :
    ∀ (cs : List Value) (s acc : ByteArray), encodeL cs = some s → (forIn (m := Sem) cs acc f).run P w = .ok (acc ++ s) w
  | [], s, acc, h => by
    simp only [encodeL, Option.some.injEq] at h
    subst h
    simp
  | c :: cs, s, acc, h => by
    unfold encodeL at h
    split at h
    · rename_i e; cases e
    · rename_i k r e
      cases e
      split at h
      · rename_i s' hs
        cases h
        have := encode_run f hf cs s' (acc ++ Utf8.encode k) hs
        simp only [List.forIn_cons, hf, Sem.run_bind, Sem.run_pure, Result.andThen_ok, this, ByteArray.append_assoc]
      · cases h
    · cases h

theorem bytes_run (f : Value → ByteArray → Sem (ForInStep ByteArray)) (hf : ∀ k r, f (.int .u8 k) r = pure (ForInStep.yield (r.push (UInt8.ofNat k.toNat)))) :
    ∀ (cs : List Value) (l : List UInt8) (acc : ByteArray), bytesL cs = some l → (forIn (m := Sem) cs acc f).run P w = .ok ⟨acc.data ++ l.toArray⟩ w
  | [], l, acc, h => by
    simp only [bytesL, Option.some.injEq] at h
    subst h
    simp
  | c :: cs, l, acc, h => by
    unfold bytesL at h
    split at h
    · rename_i e; cases e
    · rename_i k r e
      cases e
      split at h
      · rename_i l' hl
        cases h
        have := bytes_run f hf cs l' (acc.push (UInt8.ofNat k.toNat)) hl
        simp only [List.forIn_cons, hf, Sem.run_bind, Sem.run_pure, Result.andThen_ok, this]
        congr 2
        apply Array.ext'
        simp [ByteArray.push]
      · cases h
    · cases h

theorem encodeL_rigid : ∀ (cs : List Value) (s : ByteArray), encodeL cs = some s → ∀ v ∈ cs, rigid v = true
  | [], s, _, v, hv => by simp at hv
  | c :: cs, s, h, v, hv => by
    unfold encodeL at h
    split at h
    · rename_i e; cases e
    · rename_i k r e
      cases e
      split at h
      · rename_i s' hs
        rcases List.mem_cons.1 hv with rfl | hv
        · rfl
        · exact encodeL_rigid _ s' hs v hv
      · cases h
    · cases h
theorem bytesL_rigid : ∀ (cs : List Value) (s : List UInt8), bytesL cs = some s → ∀ v ∈ cs, rigid v = true
  | [], s, _, v, hv => by simp at hv
  | c :: cs, s, h, v, hv => by
    unfold bytesL at h
    split at h
    · rename_i e; cases e
    · rename_i k r e
      cases e
      split at h
      · rename_i s' hs
        rcases List.mem_cons.1 hv with rfl | hv
        · rfl
        · exact bytesL_rigid _ s' hs v hv
      · cases h
    · cases h
theorem rigid_list {cs ds : List Value} (hl : ds.length = cs.length) (hr : ∀ (j : Nat) (x y : Value), cs[j]? = some x → ds[j]? = some y → VR σ n x y) (h : ∀ v ∈ cs, rigid v = true) : ds = cs := by
  apply List.ext_getElem hl
  intro j h1 h2
  exact (rigid_eq (h _ (List.getElem_mem h2)) (hr j _ _ (List.getElem?_eq_getElem h2) (List.getElem?_eq_getElem h1))).symm

theorem sliceCells_snd (hR : Rel G σ H n w) {a : Option Addr} {len c : Nat} {x' : Value} {cs : List Value} (hx : VR σ n (.slice a len c) x') (hcs : sliceCells a len H = some cs) (hrig : ∀ v ∈ cs, rigid v = true) :
    (x' = .slice none 0 0 ∧ cs = []) ∨ ∃ b cc, x' = .slice (some b) len cc ∧ (loadCells b len).run P w = .ok cs.toArray w := by
  unfold sliceCells at hcs
  split at hcs
  · cases hcs
    obtain ⟨rfl, rfl, rfl⟩ := hx.nil_inv
    exact .inl ⟨rfl, rfl⟩
  · rename_i i o
    obtain ⟨hi, a', cc, rfl, hsp, _, _, _, hA⟩ := hx.sl_inv
    obtain ⟨_, hl, ds, hdl, hrel, hc⟩ := read_snd hR hcs
    have hds := rigid_list (by omega) hrel hrig
    subst hds
    refine .inr ⟨a', cc, rfl, ?_⟩
    rcases hA with rfl | ⟨rfl, _⟩
    · have := run_loadCells_list (P := P) w _ ds hc
      rw [hdl] at this
      exact this
    · have : ds = [] := List.eq_nil_of_length_eq_zero hdl
      subst this
      simp [loadCells, loadCellsFrom]
  · cases hcs

theorem convert_snd (hR : Rel G σ H n w) {s d : TypeId} {x x' v : Value} (hx : VR σ n x x') (h : aConvert P s d x H n = some (v, H', n')) : Snd P G lo σ H n w (convert s d x') v H' n' := by
  unfold aConvert at h
  split at h
  · rename_i e str hs hd
    split at h
    case h_2 => cases h
    rename_i hue
    cases h
    rw [hx.str_inv]
    obtain ⟨v', w', σ', h1, h2⟩ := runes_snd (P := P) (lo := lo) (e := e) (s := str) hR
    refine ⟨v', w', σ', ?_, h2⟩
    simp only [convert, Sem.run_bind, run_underlying hs, run_underlying hd, run_underlying hue, Result.andThen_ok]
    exact h1
  · rename_i e a len c hs hd
    split at h
    case h_2 => cases h
    rename_i cs hcs
    split at h
    · rename_i hue
      split at h
      case h_2 => cases h
      rename_i str hstr
      cases h
      refine .pure (v' := .string str) hR ?_ (.rig rfl)
      rcases sliceCells_snd (P := P) hR hx hcs (encodeL_rigid cs str hstr) with ⟨rfl, rfl⟩ | ⟨b, cc, rfl, hload⟩
      · simp only [encodeL, Option.some.injEq] at hstr
        subst hstr
        simp [convert, run_underlying hs, run_underlying hd, run_underlying hue, Conv.runesToString]
      · have := fun f hf => encode_run (P := P) (w := w) f hf cs str ByteArray.empty hstr
        simp only [convert, Sem.run_bind, run_underlying hs, run_underlying hd, run_underlying hue, Result.andThen_ok, Conv.runesToString, hload, Sem.run_pure, List.forIn_toArray]
        rw [this _ (fun _ _ => rfl)]
        simp
    · rename_i hue
      split at h
      case h_2 => cases h
      rename_i str hstr
      cases h
      refine .pure (v' := .string ⟨str.toArray⟩) hR ?_ (.rig rfl)
      rcases sliceCells_snd (P := P) hR hx hcs (bytesL_rigid cs str hstr) with ⟨rfl, rfl⟩ | ⟨b, cc, rfl, hload⟩
      · simp only [bytesL, Option.some.injEq] at hstr
        subst hstr
        simp [convert, run_underlying hs, run_underlying hd, run_underlying hue, Conv.bytesToString]
        rfl
      · have := fun f hf => bytes_run (P := P) (w := w) f hf cs str ByteArray.empty hstr
        simp only [convert, Sem.run_bind, run_underlying hs, run_underlying hd, run_underlying hue, Result.andThen_ok, Conv.bytesToString, hload, Sem.run_pure, List.forIn_toArray]
        rw [this _ (fun _ _ => rfl)]
        simp
    · cases h
  · cases h

end Go.AL
