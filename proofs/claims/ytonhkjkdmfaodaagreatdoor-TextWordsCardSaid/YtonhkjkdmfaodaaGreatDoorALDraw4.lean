/- A region that draws its order: one operation more is done, and comes to a value. -/
import Derived.Test.YtonhkjkdmfaodaaGreatDoorALDraw3
set_option linter.unusedVariables false
set_option linter.unusedSimpArgs false
namespace Go.AL
open Go.RowKit

variable {P : Program} {G lo N : Nat} {ops : Array Oper} {d : Draw} {E : Env} {H : Heap} {n : Nat}
variable {σ0 : Nat → Loc} {w0 : World} {D0 : List Deferred} {L : Nat → Prop} {σ σ' : Nat → Loc} {a : Act} {w w' : World}

theorem DInv.step (hd : DrawOk P lo ops E H n d) (h0 : ∀ i b, H.get i = some b → i < n) (hI : DInv G lo N ops d σ0 w0 D0 L σ a w) {k : Nat} {o : Oper} (ho : ops[k]? = some o) (hL : ¬ L k) (hr : ∀ j, Anc ops j k → L j)
    (hdst : ∀ t, o.dst = some t → t < N) {v' : Value} (hv : VR σ' (d.n (k + 1)) (d.v k) v') (hR' : Rel G σ' (d.V k) (d.n (k + 1)) w') (hm : Moves (d.lo k) σ (d.Vw k) (d.n k) w σ' (d.V k) (d.n (k + 1)) w') :
    DInv G lo N ops d σ0 w0 D0 (fun j => L j ∨ j = k) (mrg d k σ σ') (a.put o.dst v') w' := by
  have hk : k < ops.size := (Array.getElem?_eq_some_iff.1 ho).1
  -- the merged places
  have s2 : ∀ i, i < d.n (k + 1) → mrg d k σ σ' i = σ' i := by
    intro i hi
    unfold mrg
    split
    · rfl
    · rename_i h; exact (hm.same i (by omega)).symm
  have s1 : ∀ i, ¬ (d.n k ≤ i ∧ i < d.n (k + 1)) → mrg d k σ σ' i = σ i := fun i h => by unfold mrg; rw [if_neg h]
  have sI : ∀ m i, In σ m i → mrg d k σ σ' i = σ i := fun m i hi => s1 i (fun h => by
    have := hI.new k i hk hL h.1 h.2
    rw [hi.2] at this; cases this)
  have sA : ∀ i, ¬ Aff d k i → mrg d k σ σ' i = σ i := fun i h => s1 i (fun h' => h (.inr h'))
  have naff : ∀ i, ¬ Aff d k i → ∀ p, Valid d ops.size (fun j => L j ∨ j = k) p i → Valid d ops.size L p i := fun i h p hv => valid_old hk h hv
  -- what the operation sees
  have seen : ∀ j c, (d.Vw k).get j = some c → (d.H k).get j = some c ∧ j < d.n k ∧ d.vis k j ∧ Valid d ops.size L k j := fun j c h => by
    obtain ⟨h1, h2⟩ := hd.view k j c hk h
    have h3 := H_bnd hd h0 k (Nat.le_of_lt hk) j c h1
    exact ⟨h1, h3, h2, hI.view hd hk hL hr h3 h2⟩
  -- what it touches
  have aff : ∀ i p b, Aff d k i → Valid d ops.size (fun j => L j ∨ j = k) p i → (d.H p).get i = some b → i < d.n (k + 1) ∧ d.n (k + 1) ≤ d.n p ∧ (d.V k).get i = some b := by
    intro i p b ha hvd hb
    obtain ⟨hkp, hno⟩ := later hd hI hk hL ha hvd.1 hvd.2
    have hi : i < d.n (k + 1) := by
      rcases ha with h | ⟨_, h⟩
      · exact Nat.lt_of_lt_of_le (hd.wrlt k i h) (hd.le k hk)
      · exact h
    rw [H_same hd (show k + 1 ≤ p by omega) hvd.1 hi hno] at hb
    exact ⟨hi, n_mono hd (by omega) hvd.1, hd.newH k i b hk (by rcases ha with h | h; exact .inl h; exact .inr h.1) hb⟩
  -- a block that it does not touch stands as it stood
  have stands : ∀ i p b, ¬ Aff d k i → Valid d ops.size L p i → (d.H p).get i = some b → w'.heap[(σ i).blk]? = w.heap[(σ i).blk]? := by
    intro i p b ha hvd hb
    refine hm.keep _ (hI.blk p i b hvd hb).2.lt (fun j c hlo hg hwr => ?_)
    obtain ⟨h1, h2, h3, h4⟩ := seen j c hg
    have hne : j ≠ i := fun e => by subst e; exact ha (.inl (hd.may k j hk hlo h2 h3))
    exact hI.inj k p j i c b h4 hvd h1 hb hwr hne
  have hsz : w0.heap.size ≤ w'.heap.size := Nat.le_trans hI.hsize hm.size
  -- where what it touches lies, beside a block that it does not touch
  have apart : ∀ i p b j q c, Aff d k i → Valid d ops.size (fun j => L j ∨ j = k) p i → (d.H p).get i = some b → ¬ Aff d k j → Valid d ops.size L q j → (d.H q).get j = some c → (b.wr = true ∨ c.wr = true) → (mrg d k σ σ' i).blk ≠ (mrg d k σ σ' j).blk := by
    intro i p b j q c hai hvi hbi haj hvj hcj hwr
    obtain ⟨hi, _, hV⟩ := aff i p b hai hvi hbi
    rw [s2 i hi, sA j haj]
    have hij : i ≠ j := fun e => haj (e ▸ hai)
    rcases Nat.lt_or_ge i (d.n k) with h | h
    · obtain ⟨c0, hc0, ew⟩ := hm.dom i b h hV
      obtain ⟨h1, h2, h3, h4⟩ := seen i c0 hc0
      rw [hm.same i h]
      rcases hwr with hwr | hwr
      · exact hI.inj k q i j c0 c h4 hvj h1 hcj (ew.trans hwr) hij
      · exact fun e => hI.inj q k j i c c0 hvj h4 hcj h1 hwr (Ne.symm hij) e.symm
    · rcases hm.fresh i h hi with h1 | ⟨j', c0, hlo, hg, hw0, e⟩
      · have := (hI.blk q j c hvj hcj).2.lt
        omega
      · obtain ⟨h1, h2, h3, h4⟩ := seen j' c0 hg
        rw [e]
        have hne : j' ≠ j := fun e => by subst e; exact haj (.inl (hd.may k j' hk hlo h2 h3))
        exact hI.inj k q j' j c0 c h4 hvj h1 hcj hw0 hne
  -- where a block that it sees and may write came from
  have origin : ∀ j c, lo ≤ j → (d.Vw k).get j = some c → c.wr = true → w0.heap.size ≤ (σ j).blk ∨ ∃ j' b, lo ≤ j' ∧ (d.H 0).get j' = some b ∧ b.wr = true ∧ (σ j).blk = (σ0 j').blk := by
    intro j c hlo hg hwr
    obtain ⟨h1, h2, h3, h4⟩ := seen j c hg
    rcases Nat.lt_or_ge j (d.n 0) with h | h
    · obtain ⟨c0, hc0, ew⟩ := hI.dom k j c h4 h h1
      exact .inr ⟨j, c0, hlo, hc0, ew.trans hwr, by rw [hI.same j h]⟩
    · obtain ⟨x, hx, hx1, hx2⟩ := made hd k (Nat.le_of_lt hk) h h2
      exact hI.fresh x j ((h4.2 x (by omega) (.inr ⟨hx1, hx2⟩)).2 hx) hx1 hx2
  refine { lt := ?_, down := ?_, blk := ?_, inj := ?_, glob := ?_, new := ?_, tmp := ?_, size := ?_, defers := ?_, same := ?_, os := hm.os.trans hI.os, tape := hm.tape.trans hI.tape, output := hm.output.trans hI.output, hsize := hsz, dom := ?_, fresh := ?_, keep := ?_ }
  · rintro j (h | rfl)
    · exact hI.lt j h
    · exact hk
  · rintro i j hij (h | rfl)
    · exact .inl (hI.down i j hij h)
    · exact .inl (hr i hij)
  · intro p i b hvd hb
    by_cases ha : Aff d k i
    · obtain ⟨hi, hn, hV⟩ := aff i p b ha hvd hb
      exact ⟨by omega, (hR'.blk i b hV).move0 (fun j hj => s2 j hj.1) hn (s2 i hi) rfl (Nat.le_refl _)⟩
    · have hv0 := naff i ha p hvd
      obtain ⟨h1, h2⟩ := hI.blk p i b hv0 hb
      exact ⟨h1, h2.move0 (fun j hj => sI _ j hj) (Nat.le_refl _) (sA i ha) (stands i p b ha hv0 hb) hm.size⟩
  · intro p q i j b c hvi hvj hb hc hwr hij
    by_cases hai : Aff d k i
    · by_cases haj : Aff d k j
      · obtain ⟨hi, _, hVi⟩ := aff i p b hai hvi hb
        obtain ⟨hj, _, hVj⟩ := aff j q c haj hvj hc
        rw [s2 i hi, s2 j hj]
        exact hR'.inj i j b c hVi hVj hwr hij
      · exact apart i p b j q c hai hvi hb haj (naff j haj q hvj) hc (.inl hwr)
    · by_cases haj : Aff d k j
      · exact (apart j q c i p b haj hvj hc hai (naff i hai p hvi) hb (.inr hwr)).symm
      · rw [sA i hai, sA j haj]
        exact hI.inj p q i j b c (naff i hai p hvi) (naff j haj q hvj) hb hc hwr hij
  · intro g hg
    obtain ⟨h1, h2⟩ := hI.glob g hg
    rw [sI _ g h1]
    exact ⟨⟨h1.1, by rw [sI _ g h1]; exact h1.2⟩, h2⟩
  · intro j i hj hLj h1 h2
    have hjk : j ≠ k := fun e => hLj (.inr e)
    have hna : ¬ (d.n k ≤ i ∧ i < d.n (k + 1)) := by
      rintro ⟨h3, h4⟩
      rcases Nat.lt_or_gt_of_ne hjk with h | h
      · have := n_mono hd (show j + 1 ≤ k from h) (Nat.le_of_lt hk); omega
      · have := n_mono hd (show k + 1 ≤ j from h) (Nat.le_of_lt hj); omega
    rw [s1 i hna]
    exact hI.new j i hj (fun h => hLj (.inl h)) h1 h2
  · exact hI.tmps hd ho hL hdst (fun p _ i hi => sI _ i hi) (hv.mono s2 (Nat.le_refl _))
  · cases o.dst <;> simp [Act.put, hI.size]
  · rw [put_defers]; exact hI.defers
  · intro i hi
    have := n_mono hd (Nat.zero_le k) (Nat.le_of_lt hk)
    rw [s1 i (by omega)]
    exact hI.same i hi
  · intro p i b hvd hi hb
    by_cases ha : Aff d k i
    · obtain ⟨_, _, hV⟩ := aff i p b ha hvd hb
      have hik : i < d.n k := by have := n_mono hd (Nat.zero_le k) (Nat.le_of_lt hk); omega
      obtain ⟨c0, hc0, ew⟩ := hm.dom i b hik hV
      obtain ⟨h1, h2, h3, h4⟩ := seen i c0 hc0
      obtain ⟨c1, hc1, ew1⟩ := hI.dom k i c0 h4 hi h1
      exact ⟨c1, hc1, ew1.trans ew⟩
    · exact hI.dom p i b (naff i ha p hvd) hi hb
  · rintro j i (hj | rfl) h1 h2
    · have hjk : j ≠ k := fun e => hL (e ▸ hj)
      have hjs := hI.lt j hj
      have hna : ¬ (d.n k ≤ i ∧ i < d.n (k + 1)) := by
        rintro ⟨h3, h4⟩
        rcases Nat.lt_or_gt_of_ne hjk with h | h
        · have := n_mono hd (show j + 1 ≤ k from h) (Nat.le_of_lt hk); omega
        · have := n_mono hd (show k + 1 ≤ j from h) (Nat.le_of_lt hjs); omega
      rw [s1 i hna]
      exact hI.fresh j i hj h1 h2
    · rw [s2 i h2]
      rcases hm.fresh i h1 h2 with h | ⟨j, b, hlo, hg, hw, e⟩
      · exact .inl (Nat.le_trans hI.hsize h)
      · rw [e]
        exact origin j b (Nat.le_trans (hd.low _ hk) hlo) hg hw
  · intro b hb hj
    rw [hm.keep b (Nat.lt_of_lt_of_le hb hI.hsize) (fun j c hlo hg hwr => ?_)]
    · exact hI.keep b hb hj
    · rcases origin j c (Nat.le_trans (hd.low k hk) hlo) hg hwr with h | ⟨j', b', h1, h2, h3, e⟩
      · omega
      · rw [e]; exact hj j' b' h1 h2 h3

end Go.AL
