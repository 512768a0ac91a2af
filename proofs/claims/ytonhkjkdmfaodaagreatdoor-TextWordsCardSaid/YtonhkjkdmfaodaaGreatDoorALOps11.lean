/- Each operation of the abstract machine is the model's: comparisons, assertions; ALL OF THEM: aOp_snd. -/
import Derived.Test.YtonhkjkdmfaodaaGreatDoorALOps10
set_option linter.unusedVariables false
set_option linter.unusedSimpArgs false
namespace Go.AL
open Go.RowKit

variable {P : Program} {G lo : Nat} {σ : Nat → Loc} {H H' : Heap} {n n' : Nat} {w : World}

theorem VR.ptrnil_inv {v : Value} (h : VR σ n (.pointer none) v) : v = .pointer none := (rigid_eq (by simp [rigid, sc2, sc1, sc0]) h).symm
theorem VR.nilfunc_inv {v : Value} (h : VR σ n .nilFunc v) : v = .nilFunc := (rigid_eq (by simp [rigid, sc2, sc1, sc0]) h).symm
theorem VR.ptr_form {a : Option Addr} {v : Value} (h : VR σ n (.pointer a) v) : ∃ a', v = .pointer a' ∧ a'.isNone = a.isNone := by
  cases h with
  | rig h => exact ⟨_, rfl, rfl⟩
  | ptr h => exact ⟨_, rfl, rfl⟩
theorem VR.slice_form {a : Option Addr} {l c : Nat} {v : Value} (h : VR σ n (.slice a l c) v) : ∃ a' c', v = .slice a' l c' ∧ a'.isNone = a.isNone := by
  cases h with
  | rig h => exact ⟨_, _, rfl, rfl⟩
  | sl => exact ⟨_, _, rfl, rfl⟩
  | sl0 => exact ⟨_, _, rfl, rfl⟩
theorem VR.map_form {a : Option Nat} {v : Value} (h : VR σ n (.map a) v) : ∃ a', v = .map a' ∧ a'.isNone = a.isNone := by
  cases h with
  | rig h => exact ⟨_, rfl, rfl⟩
  | mp h => exact ⟨_, rfl, rfl⟩

theorem sameAddr_run (hR : Rel G σ H n w) {i j o p : Nat} {vs us : List Value} {t u : TypeId} {es fs : Nat} (hi : H.get i = some (.cells vs t es)) (hj : H.get j = some (.cells us u fs)) (hij : i ≠ j) (o' p' : Nat) :
    (sameAddr ⟨(σ i).blk, o', none⟩ ⟨(σ j).blk, p', none⟩).run P w = .ok false w := by
  obtain ⟨_, _, _, ci, hhi, _, _, _⟩ := hR.blk i _ hi
  obtain ⟨_, _, _, cj, hhj, _, _, _⟩ := hR.blk j _ hj
  have hne : ((σ i).blk == (σ j).blk) = false := by simpa using hR.inj i j _ _ hi hj rfl hij
  have f1 : ∀ q, w.frozen? ⟨(σ i).blk, q, none⟩ = false := fun q => by simp [World.frozen?, hhi]
  have f2 : ∀ q, w.frozen? ⟨(σ j).blk, q, none⟩ = false := fun q => by simp [World.frozen?, hhj]
  have s1 : w.shape? (σ i).blk = some (t, ci.size) := by simp [World.shape?, hhi]
  have s2 : w.shape? (σ j).blk = some (u, cj.size) := by simp [World.shape?, hhj]
  simp [sameAddr, hne, f1, f2, noView, viewAt, s1, s2, mayBeOne, stringish]

theorem eq_run (hR : Rel G σ H n w) {t : TypeId} {x x' y y' : Value} {b : Bool} (hx : VR σ n x x') (hy : VR σ n y y') (h : aEq P t x y H = some b) : (Op.equal t x' y').run P w = .ok b w := by
  have unf : Op.equal t x' y' = Op.equalIn (9999 + 1) t x' y' := rfl
  rw [unf]
  unfold aEq at h
  split at h
  · rename_i e a hu
    cases h
    obtain ⟨a', rfl, ha⟩ := hx.ptr_form
    rw [hy.ptrnil_inv]
    unfold Op.equalIn
    simp only [Sem.run_bind, run_underlying hu, Result.andThen_ok]
    cases a' <;> cases a <;> simp_all
  · rename_i e b' _ hu
    cases h
    obtain ⟨a', rfl, ha⟩ := hy.ptr_form
    rw [hx.ptrnil_inv]
    unfold Op.equalIn
    simp only [Sem.run_bind, run_underlying hu, Result.andThen_ok]
    cases a' <;> simp_all
  · rename_i e i o j p hu
    obtain ⟨hi, rfl⟩ := hx.ptr_inv
    obtain ⟨hj, rfl⟩ := hy.ptr_inv
    split at h
    case isTrue => cases h
    rename_i hz
    unfold Op.equalIn
    simp only [Sem.run_bind, run_underlying hu, Result.andThen_ok, run_sz (show 0 < szOf P e by omega), hz, ne_eq, not_false_eq_true, if_true]
    split at h
    · rename_i hij
      subst hij
      cases h
      simp only [sameAddr, beq_self_eq_true, if_true, Sem.run_pure]
      congr 1
      rw [Bool.eq_iff_iff]
      simp
    · rename_i hij
      split at h
      · rename_i gi gj
        cases h
        exact sameAddr_run (o := 0) (p := 0) hR gi gj hij _ _
      · cases h
  · rename_i e a l c l' c' hu
    cases h
    obtain ⟨a', k, rfl, ha⟩ := hx.slice_form
    obtain ⟨_, _, rfl⟩ := hy.nil_inv
    unfold Op.equalIn
    simp only [Sem.run_bind, run_underlying hu, Result.andThen_ok]
    cases a' <;> cases a <;> simp_all
  · rename_i e l c b' l' c' _ hu
    cases h
    obtain ⟨a', k, rfl, ha⟩ := hy.slice_form
    obtain ⟨_, _, rfl⟩ := hx.nil_inv
    unfold Op.equalIn
    simp only [Sem.run_bind, run_underlying hu, Result.andThen_ok]
    cases a' <;> simp_all
  · rename_i k e a hu
    cases h
    obtain ⟨a', rfl, ha⟩ := hx.map_form
    rw [hy.mapnil_inv]
    unfold Op.equalIn
    simp only [Sem.run_bind, run_underlying hu, Result.andThen_ok]
    cases a' <;> cases a <;> simp_all
  · rename_i k e b' _ hu
    cases h
    obtain ⟨a', rfl, ha⟩ := hy.map_form
    rw [hx.mapnil_inv]
    unfold Op.equalIn
    simp only [Sem.run_bind, run_underlying hu, Result.andThen_ok]
    cases a' <;> simp_all
  · rename_i ps rs vr f a b hu
    cases h
    obtain ⟨g', a', b', rfl⟩ := hx.fn_form
    rw [hy.nilfunc_inv]
    unfold Op.equalIn
    simp only [Sem.run_bind, run_underlying hu, Result.andThen_ok, Sem.run_pure]
  · rename_i ps rs vr f a b hu
    cases h
    obtain ⟨g', a', b', rfl⟩ := hy.fn_form
    rw [hx.nilfunc_inv]
    unfold Op.equalIn
    simp only [Sem.run_bind, run_underlying hu, Result.andThen_ok, Sem.run_pure]
  · rename_i ps rs vr hu
    cases h
    rw [hx.nilfunc_inv, hy.nilfunc_inv]
    unfold Op.equalIn
    simp only [Sem.run_bind, run_underlying hu, Result.andThen_ok, Sem.run_pure]
  · cases h

/-- Which values such a comparison is of. -/
theorem eq_shape {t : TypeId} {x x' y y' : Value} {b : Bool} (hx : VR σ n x x') (hy : VR σ n y y') (h : aEq P t x y H = some b) :
    (∃ a b, x' = .pointer a ∧ y' = .pointer b) ∨ (∃ a l c b m d, x' = .slice a l c ∧ y' = .slice b m d) ∨ (∃ a b, x' = .map a ∧ y' = .map b) ∨ ((x' = .nilFunc ∨ ∃ f a b, x' = .func f a b) ∧ (y' = .nilFunc ∨ ∃ f a b, y' = .func f a b)) := by
  unfold aEq at h
  split at h
  · obtain ⟨a', rfl, _⟩ := hx.ptr_form; rw [hy.ptrnil_inv]; exact .inl ⟨_, _, rfl, rfl⟩
  · obtain ⟨a', rfl, _⟩ := hy.ptr_form; rw [hx.ptrnil_inv]; exact .inl ⟨_, _, rfl, rfl⟩
  · obtain ⟨_, rfl⟩ := hx.ptr_inv; obtain ⟨_, rfl⟩ := hy.ptr_inv; exact .inl ⟨_, _, rfl, rfl⟩
  · obtain ⟨a', k, rfl, _⟩ := hx.slice_form; obtain ⟨b', k', rfl, _⟩ := hy.slice_form; exact .inr (.inl ⟨_, _, _, _, _, _, rfl, rfl⟩)
  · obtain ⟨a', k, rfl, _⟩ := hx.slice_form; obtain ⟨b', k', rfl, _⟩ := hy.slice_form; exact .inr (.inl ⟨_, _, _, _, _, _, rfl, rfl⟩)
  · obtain ⟨a', rfl, _⟩ := hx.map_form; obtain ⟨b', rfl, _⟩ := hy.map_form; exact .inr (.inr (.inl ⟨_, _, rfl, rfl⟩))
  · obtain ⟨a', rfl, _⟩ := hx.map_form; obtain ⟨b', rfl, _⟩ := hy.map_form; exact .inr (.inr (.inl ⟨_, _, rfl, rfl⟩))
  · obtain ⟨g', a', b', rfl⟩ := hx.fn_form; rw [hy.nilfunc_inv]; exact .inr (.inr (.inr ⟨.inr ⟨_, _, _, rfl⟩, .inl rfl⟩))
  · obtain ⟨g', a', b', rfl⟩ := hy.fn_form; rw [hx.nilfunc_inv]; exact .inr (.inr (.inr ⟨.inl rfl, .inr ⟨_, _, _, rfl⟩⟩))
  · rw [hx.nilfunc_inv, hy.nilfunc_inv]; exact .inr (.inr (.inr ⟨.inl rfl, .inl rfl⟩))
  · cases h

theorem bin_snd (hR : Rel G σ H n w) {op : BinOp} {t : TypeId} {X Y : Operand} {x x' y y' v : Value} (hx : VR σ n x x') (hy : VR σ n y y') (h : aBin P op t x y H = some v) :
    SndV P σ n w (do eqGuard op t X Y x' y'; binOp op t x' y') v := by
  unfold aBin at h
  split at h
  · split at h
    case h_2 => cases h
    rename_i b hb
    cases h
    have hrun := eq_run hR hx hy hb
    refine ⟨.bool b, ?_, .rig rfl⟩
    rcases eq_shape hx hy hb with ⟨a, c, rfl, rfl⟩ | ⟨a, l, c, b', m, d, rfl, rfl⟩ | ⟨a, c, rfl, rfl⟩ | ⟨h1 | ⟨f, a, b', h1⟩, h2 | ⟨g, c, d, h2⟩⟩
    · simp [eqGuard, binOp, hrun]
    · simp [eqGuard, binOp, hrun]
    · simp [eqGuard, binOp, hrun]
    all_goals (subst h1 h2; simp [eqGuard, binOp, hrun])
  · split at h
    case h_2 => cases h
    rename_i b hb
    cases h
    have hrun := eq_run hR hx hy hb
    refine ⟨.bool !b, ?_, .rig rfl⟩
    rcases eq_shape hx hy hb with ⟨a, c, rfl, rfl⟩ | ⟨a, l, c, b', m, d, rfl, rfl⟩ | ⟨a, c, rfl, rfl⟩ | ⟨h1 | ⟨f, a, b', h1⟩, h2 | ⟨g, c, d, h2⟩⟩
    · simp [eqGuard, binOp, hrun]
    · simp [eqGuard, binOp, hrun]
    · simp [eqGuard, binOp, hrun]
    all_goals (subst h1 h2; simp [eqGuard, binOp, hrun])
  · cases h

theorem typeAssert_snd {x x' v : Value} {xt t : TypeId} {ok : Bool} (hx : VR σ n x x') (h : aTypeAssert P x xt t ok = some v) : SndV P σ n w (Instr.typeAssert x' xt t ok) v := by
  unfold aTypeAssert at h
  split at h
  · cases h
  · rename_i d hd hu
    have hni : ∀ ms, d ≠ .interface ms := fun ms e => hd ms e
    split at h
    · rename_i u y
      obtain ⟨y', rfl, hy⟩ := hx.iface_inv
      split at h
      · rename_i he
        subst he
        cases h
        refine ⟨if ok then .tuple #[y', .bool true] else y', ?_, ?_⟩
        · simp only [Instr.typeAssert, Sem.run_bind, run_underlying hu, Result.andThen_ok]
          cases d <;> first | exact absurd rfl (hni _) | simp
        · cases ok
          · exact hy
          · exact pair_VR hy _ rfl
      · rename_i he
        split at h
        case isFalse => cases h
        rename_i hok
        split at h
        case h_2 => cases h
        rename_i z hz
        cases h
        refine ⟨.tuple #[z, .bool false], ?_, pair_VR (.rig (rigid_of_sc2 (zero_sc2 hz).1)) _ rfl⟩
        simp only [Instr.typeAssert, Sem.run_bind, run_underlying hu, Result.andThen_ok, hok]
        cases d <;> first | exact absurd rfl (hni _) | simp [he, run_zero hz]
    · have e := (rigid_eq (σ := σ) (n := n) (v := .nilIface) (by simp [rigid, sc2, sc1, sc0]) hx).symm
      subst e
      split at h
      case isFalse => cases h
      rename_i hok
      split at h
      case h_2 => cases h
      rename_i z hz
      cases h
      refine ⟨.tuple #[z, .bool false], ?_, pair_VR (.rig (rigid_of_sc2 (zero_sc2 hz).1)) _ rfl⟩
      simp only [Instr.typeAssert, Sem.run_bind, run_underlying hu, Result.andThen_ok, hok]
      cases d <;> first | exact absurd rfl (hni _) | simp [run_zero hz]
    · cases h
  · cases h

end Go.AL
