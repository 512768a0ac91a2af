/- The law 'the words of a report's text are the reference's, and a known history's report is printed as it stands': its card holds, for every number. Its condition is the card's own: the listed package variables read as their initialisers lay them (tied). -/
import Derived.Test.YtonhkjkdmfaodaaGreatDoorTwRunA
import Derived.Test.YtonhkjkdmfaodaaGreatDoorTwRunB
import Derived.Test.YtonhkjkdmfaodaaGreatDoorTwRunC
import Derived.WalkKit
import Derived.ProofKit
import Derived.OpenShut
import Derived.Deep.DeepHandedRow
import Derived.Lib.LaidTab
namespace Go.Proofs.YtonhkjkdmfaodaaGreatDoor.textWords
open Go.ChangeShapes Go.WideShapes Go.ChangeAt Go.RowKit Go.AL

theorem runs (a : Int) : Run a := by
  match a with
  | .negSucc k => exact runsNeg k
  | .ofNat 0 => exact runs0
  | .ofNat 1 => exact runs1
  | .ofNat 2 => exact runs2
  | .ofNat 3 => exact runs3
  | .ofNat (k + 4) => exact runsBig k

theorem tabsIn {W : World} (h : laidMetH Tryz.prog Rows.textWordsRow.laid W) : TabsIn 10 W tabs := by
  have h : laidMet Tryz.prog Rows.textWordsRow.laid W := h
  have m : ∀ n d, (n, d) ∈ Rows.textWordsRow.laid → Reads Tryz.prog W n d := fun n d hm => reads_of h hm
  intro p hp
  simp only [tabs, gl, List.map_cons, List.map_nil, List.mem_cons, List.mem_nil_iff, or_false] at hp
  rcases hp with rfl | rfl | rfl | rfl | rfl
  · exact entry_in (m "deemster/text.levels" Rows.laid_deemster_text_levels (by simp [Rows.textWordsRow])) (by kernel_rfl) (by kernel_rfl) (by kernel_rfl) (by kernel_rfl) Tryz.underlying25 (.inr Tryz.underlying9) (by kernel_rfl) (by decide)
  · exact entry_in (m "deemster/text.policies" Rows.laid_deemster_text_policies (by simp [Rows.textWordsRow])) (by kernel_rfl) (by kernel_rfl) (by kernel_rfl) (by kernel_rfl) Tryz.underlying28 (.inr Tryz.underlying9) (by kernel_rfl) (by decide)
  · exact entry_in (m "deemster/text.verdicts" Rows.laid_deemster_text_verdicts (by simp [Rows.textWordsRow])) (by kernel_rfl) (by kernel_rfl) (by kernel_rfl) (by kernel_rfl) Tryz.underlying25 (.inr Tryz.underlying9) (by kernel_rfl) (by decide)
  · exact entry_in (m "deemster/event.words" Rows.laid_deemster_event_words (by simp [Rows.textWordsRow])) (by kernel_rfl) (by kernel_rfl) (by kernel_rfl) (by kernel_rfl) Tryz.underlying206 (.inr Tryz.underlying9) (by kernel_rfl) (by decide)
  · exact entry_in (m "math/bits.deBruijn64tab" Rows.laid_math_bits_deBruijn64tab (by simp [Rows.textWordsRow])) (by kernel_rfl) (by kernel_rfl) (by kernel_rfl) (by kernel_rfl) Tryz.underlying435 (.inl ⟨_, Tryz.underlying5⟩) (by kernel_rfl) (by decide)

set_option maxRecDepth 100000 in
/-- What the run gives, for every argument and every world that holds the tables. -/
theorem contract (H : Type) (enc : TypeId × Value → H) (W : World) (base : Nat) (args : Array Value) (ds gs : List (DataW H)) (before : List MemPlace)
    (hval : ∀ (j : Nat) t v, Tryz.f3.params[j]? = some t → args[j]? = some v → Value.okWide Tryz.prog W .any base t v)
    (hW : DataW.Whole enc Tryz.prog Tryz.f3.params.toList Rows.textWordsSpec.vars false W args.toList ds gs before) (hL : laidMetH Tryz.prog Rows.textWordsRow.laid W) :
    Calls Tryz.prog 3 args W fun e W' => ∃ v, e = .returned v ∧ Rows.textWordsSpec.post enc Tryz.prog Tryz.f3 false true false false W args v W' := by
  have hW' := hW
  obtain ⟨p, q, hA0, hV, rfl, hfz, hnd⟩ := hW
  have hA : DataW.TrodAll enc Tryz.prog W 0 (fun _ => true) true Tryz.f3.params.toList args.toList ds p := hA0
  rw [Tryz.params3] at hA hval
  obtain ⟨v0, vs0, d0, ds0, p0, q0, hargs, rfl, rfl, h0, r0⟩ := trodAll_cons hA
  obtain ⟨rfl, rfl, rfl⟩ := trodAll_nil r0
  obtain rfl : args = #[v0] := by cases args; simp_all
  obtain ⟨rfl, rfl⟩ := trodVars_none hV
  obtain ⟨a, rfl, rfl, rfl, wa⟩ := open_int Tryz.underlying3 (hval 0 3 v0 rfl rfl) h0
  clear hA0
  simp only [List.append_nil] at hW'
  have walk := calls_run (P := Tryz.prog) (G := 10) (X := xOf xs) (f := 3) (l := tabs) (k := 1000000) (W := W) tables noGor follows (args := #[.int .i64 a]) (by rfl) (tabsIn hL) (runs a)
  refine walk.mono fun e W' ⟨he, hg⟩ => ?_
  subst he
  exact ⟨_, rfl, post_stays (pa := []) (pv := []) hW' (fun _ _ _ => trodAll_cons_mk (shut_bool Tryz.underlying4 _) trodAll_mk0)
    (fun _ _ => trodAll_cons_mk (shut_int Tryz.underlying3 wa) trodAll_mk0) (fun _ _ => rfl) rfl hg (ok_one (by kernel_rfl) rfl (okWide_bool_mk Tryz.underlying4 _))⟩

/-- A world for the witness: each listed table holds what its initialiser lays. -/
noncomputable def wl : List (Nat × DataW Unit) := gl ++ [(4, Rows.laid_unicode_utf8_first), (5, Rows.laid_unicode_utf8_acceptRanges), (7, Rows.laid_internal_strconv_uint64pow10), (9, Rows.laid_math_bits_deBruijn32tab)]
noncomputable def laidWorld (os : Os) : World := layG Tryz.prog wl (World.holding Tryz.prog os ⟨#[], #[], []⟩)
theorem laid_met (os : Os) : laidMet Tryz.prog Rows.textWordsRow.laid ((laidWorld os).forCall (fun _ _ => 0) ⟨#[], #[.int .i64 0], []⟩).memory :=
  laidMet_of_run' 8 (by kernel_rfl) (by kernel_rfl)
theorem reads (os : Os) {H : Type} (enc : TypeId × Value → H) : ∃ places, DataW.whole enc Tryz.prog ((laidWorld os).forCall (fun _ _ => 0) ⟨#[], #[.int .i64 0], []⟩).memory Tryz.f3.params.toList Rows.textWordsSpec.vars false #[Value.int .i64 0].toList 8 = some ([.lit (.int .i64 0)], [], places) :=
  ⟨[], by kernel_rfl⟩

set_option maxRecDepth 100000 in
theorem lifted (os : Os) (started : os.Started) (H : Type) (enc : TypeId × Value → H) (F : Stop.Interp) :
    ReturnsInHanded {} Tryz.checked os 3 .any ((OpenSpec.ofChange Rows.textWordsSpec).preRow enc Tryz.prog Tryz.f3 Rows.textWordsRow.domain false Rows.textWordsRow.laid) (((OpenSpec.ofChange Rows.textWordsSpec).at F).post enc Tryz.prog Tryz.f3 false true false false) := by
  obtain ⟨places, hx⟩ := reads os enc
  refine returnsInHanded_of_row (C := Tryz.checked) (s := OpenSpec.ofChange Rows.textWordsSpec) own started (by kernel_rfl) Tryz.func3
    (witness_row_at (enc := enc) (C := Tryz.checked) false (laidWorld os) #[.int .i64 0] rfl (by kernel_rfl) (by kernel_rfl) (by kernel_rfl)
      (OpenSpec.preRow_of_cond 8 hx (by kernel_rfl) (fun k hk => by cases hk) (by kernel_rfl) (laid_met os))) ?_
  intro W base args ds gs before hval hW _ _ _ hL _ _
  exact contract H enc W base args ds gs before hval hW hL

theorem said : Rows.TextWordsSaid :=
  OpenClaim.holds_of_cond 3 Tryz.f3 rfl rfl rfl rfl rfl rfl rfl ⟨rfl, rfl, rfl, rfl, rfl⟩ rfl rfl rfl rfl rfl named3 Tryz.func3 joined
    (of_decide_eq_true (by kernel_rfl)) (by unfold Func.isWrapper; first | (rw [if_pos (by decide +kernel)]; kernel_rfl) | (rw [if_neg (by decide +kernel)]; exact ⟨rfl, rfl⟩))
    (fun os started H enc _ F => by rw [OpenClaim.pre_eq_preRow]; exact lifted os started H enc F)

theorem plain (f : FuncId) (fn : Func) (hf : Tryz.pinned.checked.prog.funcNamed "deemster/deemsterlaw39.TextWords" = some f) (hfn : Tryz.pinned.checked.prog.funcs[f]? = some fn) :
    true = Tryz.pinned.checked.prog.looks [] ∧ ∀ (j : Nat) t, fn.params[j]? = some t → Tryz.pinned.checked.prog.wantsStandIn t = false := by
  obtain rfl : f = 3 := Option.some.inj (named3.symm.trans hf) |>.symm
  obtain rfl : fn = Tryz.f3 := (Option.some.inj (Tryz.func3.symm.trans hfn)).symm
  refine ⟨looks, fun j t ht => ?_⟩
  rw [Tryz.params3] at ht
  obtain rfl : t = 3 := by
    have := Array.mem_of_getElem? ht
    simpa using this
  exact (show Tryz.prog.wantsStandIn 3 = false by kernel_rfl)

/-- The card. -/
theorem card : Rows.TextWordsCardSaid :=
  Claim7.holds_tied_plain_at .later [] _ _ _ _ said (fun _ h => by cases h) wfText (fun _ h => by cases h) textWords_row_tie rfl ⟨rfl, rfl⟩ (by kernel_rfl) rfl plain goesBy3
#print axioms card
end Go.Proofs.YtonhkjkdmfaodaaGreatDoor.textWords
