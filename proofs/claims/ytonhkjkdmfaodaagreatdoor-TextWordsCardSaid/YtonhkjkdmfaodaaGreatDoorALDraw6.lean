/- A region that draws its order. -/
import Derived.Test.YtonhkjkdmfaodaaGreatDoorALDraw5
set_option linter.unusedVariables false
set_option linter.unusedSimpArgs false
namespace Go.AL
open Go.RowKit

variable {P : Program} {G lo N : Nat} {ops : Array Oper} {d : Draw} {E : Env} {H : Heap} {n : Nat}
variable {σ0 : Nat → Loc} {w0 : World} {D0 : List Deferred} {L : Nat → Prop} {σ σ' : Nat → Loc} {a : Act} {w w' : World}

theorem DInv.begin (hd : DrawOk P lo ops E H n d) (hR : Rel G σ H n w) (ht : TRel σ n N E a.tmps) (hL : ∀ j, ¬ L j) :
    DInv G lo N ops d σ w a.defers L (fun i => if i < n then σ i else { σ i with ok := false }) a w := by
  have s : ∀ i, i < n → (fun i => if i < n then σ i else { σ i with ok := false }) i = σ i := fun i hi => by simp [hi]
  have n0 := hd.n0
  have valid0 : ∀ p i, Valid d ops.size L p i → i < n → (d.H p).get i = H.get i ∧ d.n 0 ≤ d.n p := by
    intro p i hv hi
    rw [← hd.h0]
    refine ⟨H_same hd (Nat.zero_le p) hv.1 (by rw [n0]; exact hi) (fun j _ h2 ha => ?_), n_mono hd (Nat.zero_le p) hv.1⟩
    exact hL j ((hv.2 j (by have := hv.1; omega) ha).2 h2)
  have bnd : ∀ i b, H.get i = some b → i < n := hR.dom
  have old : ∀ p i b, Valid d ops.size L p i → (d.H p).get i = some b → i < n := by
    intro p i b hv hb
    rcases Nat.lt_or_ge i n with h | h
    · exact h
    · have h1 := H_bnd hd bnd p hv.1 i b hb
      obtain ⟨j, hj, h2, h3⟩ := made hd p hv.1 (by rw [n0]; exact h) h1
      exact absurd ((hv.2 j (by have := hv.1; omega) (.inr ⟨h2, h3⟩)).2 hj) (hL j)
  refine { lt := fun j h => absurd h (hL j), down := fun i j _ h => absurd h (hL j), blk := ?_, inj := ?_, glob := ?_, new := ?_, tmp := ?_, size := ht.size, defers := rfl, same := ?_, os := rfl, tape := rfl, output := rfl, hsize := Nat.le_refl _, dom := ?_, fresh := fun k i h => absurd h (hL k), keep := fun _ _ _ => rfl }
  · intro p i b hv hb
    have hi := old p i b hv hb
    obtain ⟨h1, h2⟩ := valid0 p i hv hi
    rw [h1] at hb
    rw [n0] at h2
    exact ⟨by omega, (hR.blk i b hb).move s h2 hi rfl (Nat.le_refl _)⟩
  · intro p q i j b c hvi hvj hb hc hw hij
    have hi := old p i b hvi hb
    have hj := old q j c hvj hc
    rw [(valid0 p i hvi hi).1] at hb
    rw [(valid0 q j hvj hj).1] at hc
    simp only [hi, hj, if_true]
    exact hR.inj i j b c hb hc hw hij
  · intro g hg
    obtain ⟨h1, h2⟩ := hR.glob g hg
    rw [n0]
    simp only [In, h1.1, if_true]
    exact ⟨⟨trivial, h1.2⟩, h2⟩
  · intro k i hk _ h1 _
    have := n_mono hd (Nat.zero_le k) (Nat.le_of_lt hk)
    have : ¬ i < n := by omega
    simp [this]
  · intro p t hv
    have hE : d.E p t = E t := by
      rw [← hd.e0]
      exact E_same hd (Nat.zero_le p) hv.1 (fun j o _ h2 h3 h4 => hL j ((hv.2 j o h3 h4).2 h2))
    rw [hE]
    have := n_mono hd (Nat.zero_le p) hv.1
    exact (ht.val t).mono s (by omega)
  · intro i hi
    rw [n0] at hi
    exact s i hi
  · intro p i b hv hi hb
    rw [n0] at hi
    rw [(valid0 p i hv hi).1] at hb
    exact ⟨b, by rw [hd.h0]; exact hb, rfl⟩

theorem DInv.done (hd : DrawOk P lo ops E H n d) (hb0 : ∀ i b, H.get i = some b → i < n) (hI : DInv G lo N ops d σ0 w0 D0 (fun j => j < ops.size) σ a w) :
    Rel G σ (d.H ops.size) (d.n ops.size) w ∧ TRel σ (d.n ops.size) N (d.E ops.size) a.tmps ∧ Moves lo σ0 H n w0 σ (d.H ops.size) (d.n ops.size) w := by
  have val : ∀ i, Valid d ops.size (fun j => j < ops.size) ops.size i := fun i => ⟨Nat.le_refl _, fun j hj _ => Iff.rfl⟩
  have hle : d.n 0 ≤ d.n ops.size := n_mono hd (Nat.zero_le _) (Nat.le_refl _)
  refine ⟨⟨fun i b h => (hI.blk _ i b (val i) h).1, fun i b h => (hI.blk _ i b (val i) h).2, fun i j b c h h' hw hij => hI.inj _ _ i j b c (val i) (val j) h h' hw hij, fun g hg => ?_⟩, ⟨hI.size, fun t => hI.tmp _ t ⟨Nat.le_refl _, fun j o hj _ => ?_⟩⟩, ?_⟩
  · obtain ⟨h1, h2⟩ := hI.glob g hg
    exact ⟨⟨Nat.lt_of_lt_of_le h1.1 hle, h1.2⟩, h2⟩
  · exact Iff.rfl
  · rw [hd.n0] at hle
    refine { same := fun i hi => hI.same i (by rw [hd.n0]; exact hi), le := hle, bnd := fun i b h => (hI.blk _ i b (val i) h).1, dom := ?_, frame := ?_, fresh := ?_, os := hI.os, tape := hI.tape, output := hI.output, size := hI.hsize, keep := ?_ }
    · intro i b hi h
      obtain ⟨c, hc, e⟩ := hI.dom _ i b (val i) (by rw [hd.n0]; exact hi) h
      rw [hd.h0] at hc
      exact ⟨c, hc, e⟩
    · intro i h1 h2
      rw [← hd.h0]
      have main : ∀ q, q ≤ ops.size → (d.H q).get i = (d.H 0).get i := by
        intro q
        induction q with
        | zero => intro _; rfl
        | succ q ih =>
          intro hq
          have hnq := n_mono hd (Nat.zero_le q) (by omega)
          rw [hd.n0] at hnq
          rw [hd.keepH q i (by omega) (by omega) (fun hw => by have := hd.wrlo q i hw; have := hd.low q (by omega); omega)]
          exact ih (by omega)
      exact main _ (Nat.le_refl _)
    · intro i h1 h2
      obtain ⟨k, hk, h3, h4⟩ := made hd ops.size (Nat.le_refl _) (by rw [hd.n0]; exact h1) h2
      have := hI.fresh k i hk h3 h4
      rw [hd.h0] at this
      exact this
    · intro b hb hj
      refine hI.keep b hb (fun j c h1 h2 h3 => hj j c h1 ?_ h3)
      rw [hd.h0] at h2; exact h2

theorem snd_regionD (hN : NoGor P) (hfol : P.follows .mixedOrders = true) {top : Bool} {id : Nat} {ds : List Nat} {Q : Post} (hd : DrawOk P lo ops E H n d)
    (hc : ∀ (k : Nat) (o : Oper) f args tys g a b, ops[k]? = some o → wantedE ops (d.E k) o = true → o.op = .call { callee := .value f, args := args, argTypes := tys } → d.ext k = false → ev (d.E k) f = .func (.func g) a b →
      CallSnd P G (d.lo k) g (a ++ args.map (ev (d.E k)) ++ b) (d.Vw k) (d.n k) (fun v H' n' => v = d.v k ∧ H' = d.V k ∧ n' = d.n (k + 1)))
    (h : Q .normal (d.E ops.size) ds (d.H ops.size) (d.n ops.size)) : CodeSnd P G top lo N (.region id ops true) E ds H n Q := by
  intro hok F nn σ w a hF hR ha
  simp only [codeOk] at hok
  have hRd := hR.drew
  have hmd : Moves lo σ H n w σ H n w.drew := Moves.drew hR
  refine wpIn_region_any hfol ?_
  have hbegin := DInv.begin (L := fun j => j < ops.size ∧ (Array.replicate ops.size false).getD j true = true) hd hRd ha.tmps (by
    rintro j ⟨hj, h⟩
    rw [Array.getD_eq_getD_getElem?, Array.getElem?_replicate, if_pos hj] at h
    cases h)
  refine draw_any (σ0 := σ) (w0 := w.drew) (D0 := a.defers) hN hd hR.dom hok hF hc ?_ ops.size _ _ a w.drew (by simp) (by simp) hbegin
  intro σ2 a2 w2 hI
  obtain ⟨h1, h2, h3⟩ := hI.done hd hR.dom
  refine ⟨.normal, _, ds, _, _, σ2, rfl, h, h1, ⟨h2, ?_, ?_⟩, hmd.trans h3⟩
  · rw [hI.defers]; exact (ha.mono h3.same h3.le).defers
  · exact (ha.mono h3.same h3.le).inn

end Go.AL
