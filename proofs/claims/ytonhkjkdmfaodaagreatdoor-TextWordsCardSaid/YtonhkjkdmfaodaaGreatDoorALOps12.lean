/- Each operation of the abstract machine is the model's: variables of no size, unsafe pointers, unsafe.String, cap. -/
import Derived.Test.YtonhkjkdmfaodaaGreatDoorALOps11
import Derived.Lib.UnsafeStr
set_option linter.unusedVariables false
set_option linter.unusedSimpArgs false
namespace Go.AL
open Go.RowKit

variable {P : Program} {G lo : Nat} {σ : Nat → Loc} {H H' : Heap} {n n' : Nat} {w : World}

theorem cellsOf_eq (t : TypeId) : P.cellsOf t = szOf P t := by
  unfold Program.cellsOf szOf
  cases P.info? t <;> rfl

theorem store0_snd (hR : Rel G σ H n w) {t : TypeId} {a a' v v' x : Value} (ha : VR σ n a a') (hv : VR σ n v v') (h : aStore0 P t a v H n = some (x, H', n')) :
    x = undef ∧ SndU P G lo σ H n w (Instr.storeAt t a' v') H' n' := by
  unfold aStore0 at h
  split at h
  case h_2 => cases h
  split at h
  case isFalse => cases h
  rename_i hc
  cases h
  obtain ⟨hu, hz, hl⟩ := hc
  obtain ⟨d, hu⟩ := Option.isSome_iff_exists.1 hu
  obtain ⟨hi, rfl⟩ := ha.ptr_inv
  have hs := hv.cells.1
  have h0 : v'.cells.size = 0 := by rw [← hs]; simpa using hl
  refine ⟨rfl, w, σ, ?_, hR, Moves.refl hR⟩
  have hnil : v'.cells.toList = [] := List.eq_nil_of_length_eq_zero (by simpa using h0)
  simp only [Instr.storeAt, Instr.sureAddr, pure_bind, storeVar, Sem.run_bind, run_sz' hu, Result.andThen_ok, h0, hz, ne_eq, not_true_eq_false, if_false, hnil]
  simp [storeCells]

theorem shape_blk (hR : Rel G σ H n w) {i : Nat} {vs : List Value} {t : TypeId} {es : Nat} (hg : H.get i = some (.cells vs t es)) : ∃ k, w.shape? (σ i).blk = some (t, k) ∧ vs.length ≤ k ∧ (σ i).off = 0 := by
  obtain ⟨h0, _, _, cs, hh, _, hl, _⟩ := hR.blk i _ hg
  exact ⟨cs.size, by simp [World.shape?, hh], hl, h0⟩

theorem lies_whole {t : TypeId} (hz : 0 < szOf P t) (k : Nat) (hk : szOf P t ≤ k) : liesAt P P.depth t (k / P.cellsOf t) 0 t 1 = true := by
  have hd : P.depth = (2 * (P.types.size + Made.depth) + 1) + 1 := rfl
  have h1 : 1 ≤ k / szOf P t := (Nat.one_le_div_iff hz).2 hk
  rw [hd]
  simp only [liesAt, Bool.or_eq_true]
  left
  rw [hd]
  simp [rowAt, cellsOf_eq, sameLayout, h1, Nat.ne_of_gt hz]

theorem lies_first {t u : TypeId} (hf : firstOf P t u = true) (hu : 0 < szOf P u) (hz : 0 < szOf P t) (k : Nat) (hk : szOf P t ≤ k) : liesAt P P.depth t (k / P.cellsOf t) 0 u 1 = true := by
  unfold firstOf at hf
  split at hf
  case h_2 => cases hf
  rename_i fs hus
  simp only [Bool.and_eq_true, Bool.not_eq_true'] at hf
  obtain ⟨hf, hst⟩ := hf
  split at hf
  case h_2 => cases hf
  rename_i f hfs
  simp only [Bool.and_eq_true, beq_iff_eq] at hf
  obtain ⟨rfl, ho⟩ := hf
  have hd : P.depth = (2 * (P.types.size + Made.depth)) + 1 + 1 := rfl
  have h1 : 1 ≤ k / szOf P t := (Nat.one_le_div_iff hz).2 hk
  have hin : ∃ h : 0 < fs.size, fs[0] = f := by simpa [Array.getElem?_eq_some_iff] using hfs
  obtain ⟨h0, hfe⟩ := hin
  rw [hd]
  simp only [liesAt, Bool.or_eq_true]
  left
  rw [hd]
  simp only [rowAt, cellsOf_eq, Nat.ne_of_gt hz, if_false, Nat.zero_div, Nat.zero_mod, hus, hst, Bool.or_eq_true, Bool.and_eq_true]
  right
  refine ⟨by simpa using And.intro hz hk, rfl, Array.any_eq_true.2 ⟨0, h0, ?_⟩⟩
  rw [hfe]
  simp [ho, hu, rowAt, cellsOf_eq, sameLayout, Nat.ne_of_gt hu, Nat.div_self hu]

theorem convPtr_snd (hR : Rel G σ H n w) {s d : TypeId} {x x' v : Value} (hx : VR σ n x x') (h : aConvPtr P s d x H n = some (v, H', n')) : Snd P G lo σ H n w (convert s d x') v H' n' := by
  unfold aConvPtr at h
  split at h
  · rename_i t i hs hd
    obtain ⟨hi, rfl⟩ := hx.ptr_inv
    split at h
    case h_2 => cases h
    rename_i y ys u es hg
    split at h
    case isTrue => cases h
    rename_i hz
    cases h
    obtain ⟨k, hsh, hk, hoff⟩ := shape_blk hR hg
    refine .pure (v' := .pointer (some ⟨(σ i).blk, (σ i).off + 0, none⟩)) hR ?_ (.ptr hi)
    have hk' : ¬ k = 0 := by simp at hk; omega
    simp only [convert, Sem.run_bind, run_underlying hs, run_underlying hd, Result.andThen_ok]
    simp only [Conv.unsafePointer, Sem.run_bind, run_underlying hs, run_underlying hd, Result.andThen_ok, Conv.seenAt, viewAt, hoff, cellsIn]
    simp [hsh, run_sz (P := P) (t := t) (show 0 < szOf P t by omega), hz, hk']
  · rename_i u i hs hd
    obtain ⟨hi, rfl⟩ := hx.ptr_inv
    split at h
    case h_2 => cases h
    rename_i vs t es hg
    split at h
    case isFalse => cases h
    rename_i hc
    obtain ⟨htu, hzu, hz, hl⟩ := hc
    cases h
    obtain ⟨k, hsh, hk, hoff⟩ := shape_blk hR hg
    refine .pure (v' := .pointer (some ⟨(σ i).blk, (σ i).off + 0, none⟩)) hR ?_ (.ptr hi)
    have hlies : liesAt P P.depth t (k / P.cellsOf t) 0 u 1 = true := by
      rcases htu with rfl | hf
      · exact lies_whole (P := P) hz k (by omega)
      · exact lies_first hf hzu hz k (by omega)
    simp only [convert, Sem.run_bind, run_underlying hs, run_underlying hd, Result.andThen_ok]
    simp only [Conv.unsafePointer, Sem.run_bind, run_underlying hs, run_underlying hd, Result.andThen_ok, Conv.seenAt, viewAt, hoff]
    simp [hsh, run_sz (P := P) hzu, Nat.ne_of_gt hzu, variablesAt, hlies]
  · cases h

theorem bytes2_some : ∀ (cs : List Value) (l : List UInt8), bytes2 cs = some l → cs = l.map fun b => .int .u8 b.toNat
  | [], l, h => by simp only [bytes2, Option.some.injEq] at h; subst h; rfl
  | c :: cs, l, h => by
    unfold bytes2 at h
    split at h
    · rename_i e; cases e
    · rename_i k r e
      cases e
      split at h
      case isFalse => cases h
      rename_i hk
      split at h
      · rename_i s' hs
        cases h
        have ih := bytes2_some _ s' hs
        have : ((UInt8.ofNat k.toNat).toNat : Int) = k := by
          have e : (UInt8.ofNat k.toNat).toNat = k.toNat % 256 := UInt8.toNat_ofNat' ..
          rw [e]
          omega
        rw [List.map_cons, this, ih]
      · cases h
    · cases h

theorem sliceData_snd (hR : Rel G σ H n w) {ts : Array TypeId} {ty : TypeId} {x x' v : Value} (hx : VR σ n x x') (h : aSliceData x H n = some (v, H', n')) : Snd P G lo σ H n w (Builtin.unsafeSliceData_ ts ty #[x']) v H' n' := by
  unfold aSliceData at h
  split at h
  · cases h
    obtain ⟨_, _, rfl⟩ := hx.nil_inv
    exact .pure hR (Lib.run_unsafeSliceData_nil w _ _ _ _) (.rig rfl)
  · rename_i i o k c
    cases h
    obtain ⟨hi, a', cc, rfl, hsp, hle, _, _, hA⟩ := hx.sl_inv
    rcases hA with rfl | ⟨h0, _⟩
    · exact .pure hR (Lib.run_unsafeSliceData_row w _ _ _ _ _ (by omega)) (.ptr hi)
    · cases h0
  · cases h

theorem unsafeString_snd (hR : Rel G σ H n w) {pt it ty : TypeId} {x x' k k' v : Value} (hx : VR σ n x x') (hk : VR σ n k k') (h : aUnsafeString P lo pt x k H n = some (v, H', n')) :
    Snd P G lo σ H n w (Builtin.unsafeString_ #[pt, it] ty #[x', k']) v H' n' := by
  unfold aUnsafeString at h
  split at h
  · cases h
    obtain ⟨a', rfl, _⟩ := hx.ptr_form
    rw [hk.int_inv]
    exact .pure hR (Lib.run_unsafeString_none w _ _ _ _) (.rig rfl)
  · rename_i i kk hne
    obtain ⟨hi, rfl⟩ := hx.ptr_inv
    rw [hk.int_inv]
    split at h
    case h_2 => cases h
    rename_i vs t es hg
    split at h
    case h_2 => cases h
    rename_i cs hcs
    split at h
    case h_2 => cases h
    rename_i l hl
    split at h
    case h_2 => cases h
    rename_i u hp
    split at h
    case isFalse => cases h
    rename_i hc
    obtain ⟨hlo, rfl, hz, hk0, hk1⟩ := hc
    cases h
    have hcl := bytes2_some _ _ hl
    have hread : H.read i 0 kk.toNat = some cs := by simp [Heap.read, hg, hcs]
    obtain ⟨_, hlen, ds, hdl, hrel, hcell⟩ := read_snd hR hread
    have hds : ds = cs := rigid_list (by omega) hrel (by rw [hcl]; intro v hv; simp only [List.mem_map] at hv; obtain ⟨b, _, rfl⟩ := hv; rfl)
    subst hds
    obtain ⟨m, hsh, hm, hoff⟩ := shape_blk hR hg
    have hll : l.length = kk.toNat := by rw [← hlen, hcl]; simp
    have hkk : kk = (l.length : Int) := by omega
    have hvl : kk.toNat ≤ vs.length := by
      obtain ⟨h1, h2⟩ := readL_some hcs
      rcases Nat.lt_or_ge vs.length kk.toNat with h3 | h3
      · have := h2 (kk.toNat - 1) (by omega)
        rw [List.getElem?_eq_getElem (by omega), List.getElem?_eq_none (by omega)] at this
        cases this
      · exact h3
    have hrun := Lib.run_unsafeString_row (P := P) w pt it ty u hp (by rw [cellsOf_eq]; exact hz) (σ i).blk m hsh l (by intro e; subst e; simp at hll; omega) (by omega) (by omega) (by
      intro j y hj
      have := hcell j (.int .u8 y.toNat) (by rw [hcl]; simp [hj])
      rw [hoff] at this
      exact this)
    refine ⟨_, _, σ, by rw [hkk, hoff]; exact hrun, .rig rfl, ?_, ?_⟩
    · refine hR.giveUp hg rfl (by unfold World.freeze; split <;> simp) (fun k hk => ?_)
      unfold World.freeze
      split
      · rfl
      · simp only [Array.getElem?_modify]
        rw [if_neg (fun e => hk e.symm)]
    · refine Moves.write hR hlo hg rfl (fun c e => by cases e) ?_ ?_ ?_ ?_ (fun k hk => ?_)
      · unfold World.freeze; split <;> rfl
      · unfold World.freeze; split <;> rfl
      · unfold World.freeze; split <;> rfl
      · unfold World.freeze; split <;> simp
      · unfold World.freeze
        split
        · rfl
        · simp only [Array.getElem?_modify]
          rw [if_neg (fun e => hk e.symm)]
  · cases h

theorem cap_snd (hR : Rel G σ H n w) {t ty : TypeId} {x x' v : Value} (hx : VR σ n x x') (h : aCap P t x H n = some (v, H', n')) : Snd P G lo σ H n w (Builtin.cap_ #[t] ty #[x']) v H' n' := by
  unfold aCap at h
  split at h
  · rename_i hu
    cases h
    obtain ⟨_, _, rfl⟩ := hx.nil_inv
    exact .pure (v' := goInt 0) hR (by simp [Builtin.cap_, run_underlying hu]) (.rig rfl)
  · rename_i hu
    cases h
    obtain ⟨hi, a', cc, rfl, _, _, h0, _, _⟩ := hx.sl_inv
    have := h0 rfl
    subst this
    exact .pure (v' := goInt 0) hR (by simp [Builtin.cap_, run_underlying hu]) (.rig rfl)
  · rename_i k e hu
    cases h
    exact .pure (v' := goInt k) hR (by simp [Builtin.cap_, run_underlying hu]) (.rig rfl)
  · cases h

end Go.AL
