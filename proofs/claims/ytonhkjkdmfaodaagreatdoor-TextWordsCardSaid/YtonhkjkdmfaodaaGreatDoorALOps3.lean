/- Each operation of the abstract machine is the model's: places, cuts, literals, fields. -/
import Derived.Test.YtonhkjkdmfaodaaGreatDoorALOps2
set_option linter.unusedVariables false
set_option linter.unusedSimpArgs false
namespace Go.AL
open Go.RowKit

variable {P : Program} {G lo : Nat} {σ : Nat → Loc} {H H' : Heap} {n n' : Nat} {w : World}

/-- A run that leaves the world, and comes to the abstract value. -/
def SndV (P : Program) (σ : Nat → Loc) (n : Nat) (w : World) (s : Sem Value) (v : Value) : Prop := ∃ v', s.run P w = .ok v' w ∧ VR σ n v v'
theorem SndV.snd {s : Sem Value} {v : Value} (h : SndV P σ n w s v) (hR : Rel G σ H n w) : Snd P G lo σ H n w s v H n :=
  let ⟨v', h1, h2⟩ := h; ⟨v', w, σ, h1, h2, hR, Moves.refl hR⟩

theorem fieldAddr_snd {s : TypeId} {a a' v : Value} {f : Nat} (ha : VR σ n a a') (h : aFieldAddr P s a f = some v) : SndV P σ n w (Instr.fieldAt s a' f) v := by
  unfold aFieldAddr at h
  split at h
  · rename_i i o off t hf
    split at h
    · cases h
    · rename_i hz
      cases h
      obtain ⟨hi, rfl⟩ := ha.ptr_inv
      unfold fieldOf at hf
      split at hf
      · rename_i fs hu
        split at hf
        · rename_i d hd
          cases hf
          refine ⟨.pointer (some ⟨(σ i).blk, (σ i).off + (o + d.offset), none⟩), ?_, .ptr hi⟩
          have := run_sz (P := P) (t := d.type) (by omega) w
          simp [Instr.fieldAt, run_underlying hu, hd, Instr.sureAddr, fieldPlace, this, hz, add_none, Nat.add_assoc]
        · cases hf
      · cases hf
  · cases h

theorem VR.int_inv {k : IntKind} {j : Int} {v : Value} (h : VR σ n (.int k j) v) : v = .int k j := (rigid_eq (by simp [rigid, sc2, sc1, sc0]) h).symm
theorem VR.bool_inv {b : Bool} {v : Value} (h : VR σ n (.bool b) v) : v = .bool b := (rigid_eq (by simp [rigid, sc2, sc1, sc0]) h).symm
theorem VR.str_inv {s : ByteArray} {v : Value} (h : VR σ n (.string s) v) : v = .string s := (rigid_eq (by simp [rigid, sc2, sc1, sc0]) h).symm
theorem VR.mapnil_inv {v : Value} (h : VR σ n (.map none) v) : v = .map none := (rigid_eq (by simp [rigid, sc2, sc1, sc0]) h).symm

theorem sliceElem_some {t e : TypeId} (h : sliceElem P t = some e) : P.underlying t = some (.slice e) ∧ 0 < szOf P e := by
  unfold sliceElem at h
  split at h
  · split at h
    · cases h; exact ⟨by assumption, by assumption⟩
    · cases h
  · cases h
theorem arrayElem_some {t e : TypeId} {k : Nat} (h : arrayElem P t = some (k, e)) : P.underlying t = some (.array k e) ∧ 0 < szOf P e := by
  unfold arrayElem at h
  split at h
  · split at h
    · cases h; exact ⟨by assumption, by assumption⟩
    · cases h
  · cases h
theorem mapElem_some {t k e : TypeId} (h : mapElem P t = some (k, e)) : P.underlying t = some (.map k e) := by
  unfold mapElem at h
  split at h
  · cases h; assumption
  · cases h

theorem indexAddr_snd {t : TypeId} {x x' j j' v : Value} (hx : VR σ n x x') (hj : VR σ n j j') (h : aIndexAddr P t x j = some v) :
    SndV P σ n w (Instr.indexAt t x' j') v := by
  unfold aIndexAddr at h
  split at h
  · rename_i kk jj
    rw [hj.int_inv]
    split at h
    · rename_i i o len c
      split at h
      · rename_i e he
        split at h
        · rename_i hb
          cases h
          obtain ⟨hi, a, cc, rfl, _, _, _, _, hA⟩ := hx.sl_inv
          rcases hA with rfl | ⟨rfl, _⟩
          · refine ⟨.pointer (some ⟨(σ i).blk, (σ i).off + (o + jj.toNat * szOf P e), none⟩), ?_, .ptr hi⟩
            have := run_sz (P := P) (sliceElem_some he).2 w
            simp [Instr.indexAt, asIntOf, run_underlying (sliceElem_some he).1, hb, this, add_none, Nat.add_assoc]
          · omega
        · cases h
      · cases h
    · rename_i i o
      split at h
      · rename_i len e he
        split at h
        · rename_i hb
          cases h
          obtain ⟨hi, rfl⟩ := hx.ptr_inv
          refine ⟨.pointer (some ⟨(σ i).blk, (σ i).off + (o + jj.toNat * szOf P e), none⟩), ?_, .ptr hi⟩
          have := run_sz (P := P) (arrayElem_some he).2 w
          simp [Instr.indexAt, asIntOf, run_underlying (arrayElem_some he).1, Instr.sureAddr, hb, this, add_none, Nat.add_assoc]
        · cases h
      · cases h
    · cases h
  · cases h

theorem sliceBound_run {kk : IntKind} {i : Int} {y : Nat} (c : BoundsCode) (h : 0 ≤ i ∧ i ≤ y) (w : World) : (Instr.sliceBound (.int kk i) y c).run P w = .ok i.toNat w := by
  simp [Instr.sliceBound, asIntOf, h]
theorem add_zero' (a : Addr) : a.add 0 = a := by simp [Addr.add]
theorem add_spot (a : Addr) (k : Nat) (h : a.spot = none) : (a.add k).spot = none := by unfold Addr.add; split <;> simp_all

/-- A cut from l to h, of a slice. -/
theorem cut_VR {i o l h len c cc sz : Nat} {a : Addr} (hi : In σ n i) (hs : a.spot = none) (hlc : len ≤ cc) (hA : a = ⟨(σ i).blk, (σ i).off + o, none⟩ ∨ (len = 0 ∧ c ≠ 1)) (h1 : l ≤ h) (h2 : h ≤ len) :
    VR σ n (.slice (some ⟨i, o + l * sz, none⟩) (h - l) 2) (.slice (some (if cc = l then a else a.add (l * sz))) (h - l) (cc - l)) := by
  by_cases e : h - l = 0
  · rw [e]
    refine .sl0 hi ?_ (by simp) (by simp)
    split
    · exact hs
    · exact add_spot _ _ hs
  · rcases hA with rfl | ⟨rfl, _⟩
    · rw [if_neg (by omega), add_none, Nat.add_assoc]
      exact .sl hi (by omega) (by simp) (by simp)
    · omega

theorem VR.nilslice : VR σ n (.slice none 0 0) (.slice none 0 0) := .rig rfl

theorem slice_snd {t : TypeId} {x x' v : Value} {lo' hi' mx lo2 hi2 mx2 : Option Value} (hx : VR σ n x x') (h1 : ∀ a, lo' = some a → ∃ b, lo2 = some b ∧ VR σ n a b) (h1' : lo' = none → lo2 = none)
    (h2 : ∀ a, hi' = some a → ∃ b, hi2 = some b ∧ VR σ n a b) (h2' : hi' = none → hi2 = none) (h3 : ∀ a, mx = some a → ∃ b, mx2 = some b ∧ VR σ n a b) (h3' : mx = none → mx2 = none)
    (h : aSlice P t x lo' hi' mx = some v) : SndV P σ n w (Instr.slice t x' lo2 hi2 mx2) v := by
  unfold aSlice at h
  split at h
  · rename_i a len c
    split at h
    case h_2 => cases h
    rename_i e he
    obtain ⟨hu, hz⟩ := sliceElem_some he
    have hsz := run_sz (P := P) hz w
    -- the slice itself
    have form : (a = none ∧ len = 0 ∧ c = 0 ∧ x' = .slice none 0 0) ∨ ∃ i o a' cc, a = some ⟨i, o, none⟩ ∧ x' = .slice (some a') len cc ∧ In σ n i ∧ a'.spot = none ∧ len ≤ cc ∧ (c = 0 → cc = 0) ∧
        (c = 1 → (σ i).wr = true → (σ i).off + o + cc * (σ i).es ≤ (σ i).size) ∧ (a' = ⟨(σ i).blk, (σ i).off + o, none⟩ ∨ (len = 0 ∧ c ≠ 1)) := by
      cases a with
      | none => obtain ⟨q1, q2, q3⟩ := hx.nil_inv; exact .inl ⟨rfl, q1, q2, q3⟩
      | some a =>
        obtain ⟨i, o, s⟩ := a
        cases s with
        | some s => cases hx with
          | rig h => simp [rigid, sc2, sc1, sc0] at h
        | none =>
          obtain ⟨hi, a', cc, q1, q2, q3, q4, q5, q6⟩ := hx.sl_inv
          exact .inr ⟨i, o, a', cc, rfl, q1, hi, q2, q3, q4, q5, q6⟩
    split at h
    · have e3 := h3' rfl
      subst e3
      split at h
      · have e2 := h2' rfl
        subst e2
        split at h
        · have e1 := h1' rfl
          subst e1
          cases h
          rcases form with ⟨rfl, rfl, rfl, rfl⟩ | ⟨i, o, a', cc, rfl, rfl, hi, q2, q3, q4, q5, q6⟩
          · exact ⟨.slice none 0 0, by simp [Instr.slice, run_underlying hu, Instr.sliceBounds, hsz], .nilslice⟩
          · exact ⟨.slice (some a') len cc, by simp [Instr.slice, run_underlying hu, Instr.sliceBounds, hsz, add_zero'], hx⟩
        · rename_i kk l
          obtain ⟨b, rfl, hb⟩ := h1 _ rfl
          rw [hb.int_inv]
          split at h
          case isFalse => cases h
          rename_i hl
          rcases form with ⟨rfl, rfl, rfl, rfl⟩ | ⟨i, o, a', cc, rfl, rfl, hi, q2, q3, q4, q5, q6⟩
          · simp at h
            subst h
            have hl0 : l = 0 := by omega
            subst hl0
            exact ⟨.slice none 0 0, by simp [Instr.slice, run_underlying hu, Instr.sliceBounds, sliceBound_run, hsz], .nilslice⟩
          · simp only [Option.some.injEq] at h
            subst h
            refine ⟨_, ?_, cut_VR (sz := szOf P e) (h := len) (l := l.toNat) hi q2 q3 q6 (by omega) (Nat.le_refl _)⟩
            simp only [Instr.slice, Sem.run_bind, run_underlying hu, Result.andThen_ok, Instr.sliceBounds, sliceBound_run _ hl, Sem.run_pure, hsz]
            congr 2
            split <;> simp_all
        · cases h
      · rename_i kk hh
        obtain ⟨b, rfl, hb⟩ := h2 _ rfl
        rw [hb.int_inv]
        split at h
        case isFalse => cases h
        rename_i hhb
        split at h
        · have e1 := h1' rfl
          subst e1
          rcases form with ⟨rfl, rfl, rfl, rfl⟩ | ⟨i, o, a', cc, rfl, rfl, hi, q2, q3, q4, q5, q6⟩
          · simp at h
            subst h
            have hl0 : hh = 0 := by omega
            subst hl0
            exact ⟨.slice none 0 0, by simp [Instr.slice, run_underlying hu, Instr.sliceBounds, sliceBound_run, hsz], .nilslice⟩
          · simp only [Option.some.injEq] at h
            subst h
            refine ⟨.slice (some a') hh.toNat cc, ?_, ?_⟩
            · simp only [Instr.slice, Sem.run_bind, run_underlying hu, Result.andThen_ok, Instr.sliceBounds, sliceBound_run _ (show 0 ≤ hh ∧ hh ≤ (cc : Int) by omega), Sem.run_pure, hsz]
              simp [add_zero']
            · rcases q6 with rfl | ⟨rfl, hc1⟩
              · exact .sl hi (by omega) q4 q5
              · have : hh.toNat = 0 := by omega
                rw [this]
                exact .sl0 hi q2 q4 hc1
        · rename_i kk2 l
          obtain ⟨b1, rfl, hb1⟩ := h1 _ rfl
          rw [hb1.int_inv]
          split at h
          case isFalse => cases h
          rename_i hl
          rcases form with ⟨rfl, rfl, rfl, rfl⟩ | ⟨i, o, a', cc, rfl, rfl, hi, q2, q3, q4, q5, q6⟩
          · simp at h
            subst h
            have hh0 : hh = 0 := by omega
            subst hh0
            have hl0 : l = 0 := by omega
            subst hl0
            exact ⟨.slice none 0 0, by simp [Instr.slice, run_underlying hu, Instr.sliceBounds, sliceBound_run, hsz], .nilslice⟩
          · simp only [Option.some.injEq] at h
            subst h
            refine ⟨_, ?_, cut_VR (sz := szOf P e) (h := hh.toNat) (l := l.toNat) hi q2 q3 q6 (by omega) (by omega)⟩
            simp only [Instr.slice, Sem.run_bind, run_underlying hu, Result.andThen_ok, Instr.sliceBounds, sliceBound_run _ (show 0 ≤ hh ∧ hh ≤ (cc : Int) by omega),
              sliceBound_run _ (show 0 ≤ l ∧ l ≤ (hh.toNat : Int) by omega), Sem.run_pure, hsz]
            congr 2
            split <;> simp_all
        · cases h
      · cases h
    · rename_i km m
      obtain ⟨bm, rfl, hbm⟩ := h3 _ rfl
      rw [hbm.int_inv]
      split at h
      · rename_i kh hh
        obtain ⟨b, rfl, hb⟩ := h2 _ rfl
        rw [hb.int_inv]
        have e1 := h1' rfl
        subst e1
        split at h
        case isFalse => cases h
        rename_i hm
        obtain ⟨rfl, rfl⟩ := hm
        rcases form with ⟨rfl, rfl, rfl, rfl⟩ | ⟨i, o, a', cc, rfl, rfl, hi, q2, q3, q4, q5, q6⟩
        · simp at h
          subst h
          exact ⟨.slice none 0 0, by simp [Instr.slice, run_underlying hu, Instr.sliceBounds, sliceBound_run, hsz], .nilslice⟩
        · simp only [Option.some.injEq] at h
          subst h
          refine ⟨.slice (some a') 0 0, by simp [Instr.slice, run_underlying hu, Instr.sliceBounds, sliceBound_run, hsz], ?_⟩
          exact .sl0 hi q2 (by simp) (by simp)
      · rename_i kh hh kl l
        obtain ⟨b, rfl, hb⟩ := h2 _ rfl
        rw [hb.int_inv]
        obtain ⟨b1, rfl, hb1⟩ := h1 _ rfl
        rw [hb1.int_inv]
        split at h
        case isFalse => cases h
        rename_i hm
        obtain ⟨rfl, rfl, rfl⟩ := hm
        rcases form with ⟨rfl, rfl, rfl, rfl⟩ | ⟨i, o, a', cc, rfl, rfl, hi, q2, q3, q4, q5, q6⟩
        · simp at h
          subst h
          exact ⟨.slice none 0 0, by simp [Instr.slice, run_underlying hu, Instr.sliceBounds, sliceBound_run, hsz], .nilslice⟩
        · simp only [Option.some.injEq] at h
          subst h
          refine ⟨.slice (some a') 0 0, by simp [Instr.slice, run_underlying hu, Instr.sliceBounds, sliceBound_run, hsz], ?_⟩
          exact .sl0 hi q2 (by simp) (by simp)
      · cases h
    · cases h
  · cases h

theorem sliceAt_slice {t e : TypeId} (hu : P.underlying t = some (.slice e)) (x : Value) (a b c : Option Value) : (Instr.sliceAt t x a b c).run P w = (Instr.slice t x a b c).run P w := by
  simp [Instr.sliceAt, run_underlying hu]
theorem sliceAt_snd {t : TypeId} {x x' v : Value} {lo' hi' mx lo2 hi2 mx2 : Option Value} (hx : VR σ n x x') (h1 : ∀ a, lo' = some a → ∃ b, lo2 = some b ∧ VR σ n a b) (h1' : lo' = none → lo2 = none)
    (h2 : ∀ a, hi' = some a → ∃ b, hi2 = some b ∧ VR σ n a b) (h2' : hi' = none → hi2 = none) (h3 : ∀ a, mx = some a → ∃ b, mx2 = some b ∧ VR σ n a b) (h3' : mx = none → mx2 = none)
    (h : aSlice P t x lo' hi' mx = some v) : SndV P σ n w (Instr.sliceAt t x' lo2 hi2 mx2) v := by
  have hu : ∃ e, P.underlying t = some (.slice e) := by
    unfold aSlice at h
    split at h
    · split at h
      · rename_i he; exact ⟨_, (sliceElem_some he).1⟩
      · cases h
    · cases h
  obtain ⟨e, hu⟩ := hu
  obtain ⟨v', h4, h5⟩ := slice_snd (w := w) hx h1 h1' h2 h2' h3 h3' h
  exact ⟨v', by rw [sliceAt_slice hu]; exact h4, h5⟩

theorem sliceArr_snd {t : TypeId} {x x' v : Value} {lo' hi' mx lo2 hi2 mx2 : Option Value} (hx : VR σ n x x') (h1 : ∀ a, lo' = some a → ∃ b, lo2 = some b ∧ VR σ n a b) (h1' : lo' = none → lo2 = none)
    (h2 : ∀ a, hi' = some a → ∃ b, hi2 = some b ∧ VR σ n a b) (h2' : hi' = none → hi2 = none) (h3 : ∀ a, mx = some a → ∃ b, mx2 = some b ∧ VR σ n a b) (h3' : mx = none → mx2 = none)
    (h : aSliceArr P t x lo' hi' mx = some v) : SndV P σ n w (Instr.sliceAt t x' lo2 hi2 mx2) v := by
  unfold aSliceArr at h
  split at h
  · rename_i i o
    obtain ⟨hi, rfl⟩ := hx.ptr_inv
    split at h
    case h_2 => cases h
    rename_i k e he
    obtain ⟨hu, hz⟩ := arrayElem_some he
    have hsz := run_sz (P := P) hz w
    split at h
    case h_2 => cases h
    have e3 := h3' rfl
    subst e3
    split at h
    case h_2 => cases h
    rename_i hv lv hh hl
    split at h
    case isFalse => cases h
    rename_i hb
    cases h
    refine ⟨_, ?_, cut_VR (c := 1) (cc := k) (sz := szOf P e) (h := hv.toNat) (l := lv.toNat) hi rfl (Nat.le_refl _) (.inl rfl) (by omega) (by omega)⟩
    have hl2 : (lo2 = none ∧ lv = 0) ∨ ∃ kk, lo2 = some (.int kk lv) := by
      cases lo' with
      | none => simp at hl; exact .inl ⟨h1' rfl, hl.symm⟩
      | some q =>
        obtain ⟨b, rfl, hq⟩ := h1 _ rfl
        cases q <;> simp at hl
        subst hl
        exact .inr ⟨_, by rw [hq.int_inv]⟩
    have hh2 : (hi2 = none ∧ hv = k) ∨ ∃ kk, hi2 = some (.int kk hv) := by
      cases hi' with
      | none => simp at hh; exact .inl ⟨h2' rfl, hh.symm⟩
      | some q =>
        obtain ⟨b, rfl, hq⟩ := h2 _ rfl
        cases q <;> simp at hh
        subst hh
        exact .inr ⟨_, by rw [hq.int_inv]⟩
    have b1 := fun (kk : IntKind) (c : BoundsCode) => sliceBound_run (P := P) (kk := kk) (i := hv) (y := k) c (by omega)
    have b2 := fun (kk : IntKind) (c : BoundsCode) => sliceBound_run (P := P) (kk := kk) (i := lv) (y := hv.toNat) c (by omega)
    have b3 := fun (kk : IntKind) (c : BoundsCode) (e : hv = k) => sliceBound_run (P := P) (kk := kk) (i := lv) (y := k) c (by omega)
    rcases hl2 with ⟨rfl, e1⟩ | ⟨k1, rfl⟩ <;> rcases hh2 with ⟨rfl, e2⟩ | ⟨k2, rfl⟩
    · subst e1 e2
      simp [Instr.sliceAt, Instr.sureAddr, run_underlying hu, Instr.sliceBounds, hsz]
    · subst e1
      simp [Instr.sliceAt, Instr.sureAddr, run_underlying hu, Instr.sliceBounds, hsz, b1]
    · subst e2
      simp [Instr.sliceAt, Instr.sureAddr, run_underlying hu, Instr.sliceBounds, hsz, b3]
    · simp [Instr.sliceAt, Instr.sureAddr, run_underlying hu, Instr.sliceBounds, hsz, b1, b2]
  · cases h

end Go.AL
