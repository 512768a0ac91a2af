/- A region that draws its order: what is kept while its operations are done in whatever order. -/
import Derived.Test.YtonhkjkdmfaodaaGreatDoorALDraw
set_option linter.unusedVariables false
set_option linter.unusedSimpArgs false
namespace Go.AL
open Go.RowKit

variable {P : Program} {G lo N : Nat} {ops : Array Oper} {d : Draw} {E : Env} {H : Heap} {n : Nat}

/-- Operation j turns block i, or makes it. -/
def Aff (d : Draw) (j i : Nat) : Prop := d.wr j i ∨ (d.n j ≤ i ∧ i < d.n (j + 1))
/-- Of block i as much is done as before operation p in the order of the text. -/
def Valid (d : Draw) (m : Nat) (L : Nat → Prop) (p i : Nat) : Prop := p ≤ m ∧ ∀ j, j < m → Aff d j i → (L j ↔ j < p)
def VTmp (ops : Array Oper) (L : Nat → Prop) (p t : Nat) : Prop := p ≤ ops.size ∧ ∀ j o, ops[j]? = some o → o.dst = some t → (L j ↔ j < p)

structure DInv (G lo N : Nat) (ops : Array Oper) (d : Draw) (σ0 : Nat → Loc) (w0 : World) (D0 : List Deferred) (L : Nat → Prop) (σ : Nat → Loc) (a : Act) (w : World) : Prop where
  lt : ∀ j, L j → j < ops.size
  down : ∀ j k, Anc ops j k → L k → L j
  blk : ∀ (p i : Nat) (b : Blk), Valid d ops.size L p i → (d.H p).get i = some b → i < d.n p ∧ BR σ (d.n p) w i b
  inj : ∀ (p q i j : Nat) (b c : Blk), Valid d ops.size L p i → Valid d ops.size L q j → (d.H p).get i = some b → (d.H q).get j = some c → b.wr = true → i ≠ j → (σ i).blk ≠ (σ j).blk
  glob : ∀ g, g < G → In σ (d.n 0) g ∧ (σ g).blk = g ∧ (σ g).off = 0
  new : ∀ k i, k < ops.size → ¬ L k → d.n k ≤ i → i < d.n (k + 1) → (σ i).ok = false
  tmp : ∀ p t, VTmp ops L p t → VR σ (d.n p) (d.E p t) (a.tmps.getD t undef)
  size : a.tmps.size = N
  defers : a.defers = D0
  same : ∀ i, i < d.n 0 → σ i = σ0 i
  os : w.os = w0.os
  tape : w.tape = w0.tape
  output : w.output = w0.output
  hsize : w0.heap.size ≤ w.heap.size
  dom : ∀ (p i : Nat) (b : Blk), Valid d ops.size L p i → i < d.n 0 → (d.H p).get i = some b → ∃ c, (d.H 0).get i = some c ∧ c.wr = b.wr
  fresh : ∀ k i, L k → d.n k ≤ i → i < d.n (k + 1) → w0.heap.size ≤ (σ i).blk ∨ ∃ j b, lo ≤ j ∧ (d.H 0).get j = some b ∧ b.wr = true ∧ (σ i).blk = (σ0 j).blk
  keep : ∀ b, b < w0.heap.size → (∀ j c, lo ≤ j → (d.H 0).get j = some c → c.wr = true → (σ0 j).blk ≠ b) → w.heap[b]? = w0.heap[b]?

theorem n_mono (hd : DrawOk P lo ops E H n d) : ∀ {p q : Nat}, p ≤ q → q ≤ ops.size → d.n p ≤ d.n q := by
  intro p q h
  induction h with
  | refl => intro _; exact Nat.le_refl _
  | step h ih => intro hq; exact Nat.le_trans (ih (by omega)) (hd.le _ (by omega))

/-- Where nothing turns a block, it is the same. -/
theorem H_same (hd : DrawOk P lo ops E H n d) {i : Nat} : ∀ {p q : Nat}, p ≤ q → q ≤ ops.size → i < d.n p → (∀ j, p ≤ j → j < q → ¬ Aff d j i) → (d.H q).get i = (d.H p).get i := by
  intro p q h
  induction h with
  | refl => intro _ _ _; rfl
  | @step q h ih =>
    intro hq hi hn
    rw [hd.keepH q i (by omega) (Nat.lt_of_lt_of_le hi (n_mono hd h (by omega))) (fun hw => hn q h (by omega) (.inl hw))]
    exact ih (by omega) hi (fun j h1 h2 => hn j h1 (by omega))

theorem E_same (hd : DrawOk P lo ops E H n d) {t : Nat} : ∀ {p q : Nat}, p ≤ q → q ≤ ops.size → (∀ j o, p ≤ j → j < q → ops[j]? = some o → o.dst ≠ some t) → d.E q t = d.E p t := by
  intro p q h
  induction h with
  | refl => intro _ _; rfl
  | @step q h ih =>
    intro hq hn
    have ho : ops[q]? = some ops[q] := Array.getElem?_eq_getElem (by omega)
    rw [hd.env q _ ho]
    have hne := hn q _ h (by omega) ho
    have : ((d.E q).put (ops[q]).dst (d.v q)) t = d.E q t := by
      unfold Env.put
      cases hdst : (ops[q]).dst with
      | none => rfl
      | some x =>
        simp only
        rw [if_neg (fun e => hne (by rw [hdst, e]))]
    rw [this]
    exact ih (by omega) (fun j o h1 h2 h3 => hn j o h1 (by omega) h3)

/-- No number from n on has a block. -/
theorem H_bnd (hd : DrawOk P lo ops E H n d) (h0 : ∀ i b, H.get i = some b → i < n) : ∀ k, k ≤ ops.size → ∀ i b, (d.H k).get i = some b → i < d.n k
  | 0, _, i, b, h => by rw [hd.h0] at h; rw [hd.n0]; exact h0 i b h
  | k + 1, hk, i, b, h => by
    rcases hd.newlt k i b (by omega) h with h1 | ⟨_, h1⟩
    · obtain ⟨c, hc⟩ := Option.isSome_iff_exists.1 h1
      exact Nat.lt_of_lt_of_le (H_bnd hd h0 k (by omega) i c hc) (hd.le k (by omega))
    · exact h1

/-- A number that is not old was made by one of the operations. -/
theorem made (hd : DrawOk P lo ops E H n d) {i : Nat} : ∀ k, k ≤ ops.size → d.n 0 ≤ i → i < d.n k → ∃ j, j < k ∧ d.n j ≤ i ∧ i < d.n (j + 1)
  | 0, _, h, h' => by omega
  | k + 1, hk, h, h' => by
    rcases Nat.lt_or_ge i (d.n k) with h1 | h1
    · obtain ⟨j, h2, h3⟩ := made hd k (by omega) h h1
      exact ⟨j, by omega, h3⟩
    · exact ⟨k, by omega, h1, h'⟩

variable {σ0 : Nat → Loc} {w0 : World} {D0 : List Deferred} {L : Nat → Prop} {σ : Nat → Loc} {a : Act} {w : World}

/-- What an operation sees is as in the order of the text. -/
theorem DInv.view (hd : DrawOk P lo ops E H n d) (hI : DInv G lo N ops d σ0 w0 D0 L σ a w) {k : Nat} (hk : k < ops.size) (hL : ¬ L k) (hr : ∀ j, Anc ops j k → L j) {i : Nat} (hi : i < d.n k) (hv : d.vis k i) : Valid d ops.size L k i := by
  refine ⟨Nat.le_of_lt hk, fun j hj ha => ?_⟩
  have ho : ∀ {x}, x < ops.size → ops[x]? = some (ops[x]!) := fun {x} hx => by simp [hx]
  rcases Nat.lt_trichotomy j k with h | h | h
  · refine ⟨fun _ => h, fun _ => ?_⟩
    rcases hd.ord j k _ _ h (ho hj) (ho hk) with hanc | ⟨_, h1, h2, _⟩
    · exact hr j hanc
    · rcases ha with ha | ⟨h3, h4⟩
      · exact absurd hv (h2 i ha)
      · exact absurd hv (h1 i h3 h4)
  · subst h
    exact ⟨fun h => absurd h hL, fun h => absurd h (Nat.lt_irrefl _)⟩
  · refine ⟨fun hLj => ?_, fun h' => by omega⟩
    rcases hd.ord k j _ _ h (ho hk) (ho hj) with hanc | ⟨_, _, _, h3⟩
    · exact absurd (hI.down k j hanc hLj) hL
    · rcases ha with ha | ⟨h4, _⟩
      · exact absurd hv (h3 i ha)
      · have := n_mono hd (Nat.le_of_lt h) (Nat.le_of_lt hj)
        omega

theorem DInv.viewRel (hd : DrawOk P lo ops E H n d) (hI : DInv G lo N ops d σ0 w0 D0 L σ a w) {k : Nat} (hk : k < ops.size) (hL : ¬ L k) (hr : ∀ j, Anc ops j k → L j)
    (hbnd : ∀ i b, (d.H k).get i = some b → i < d.n k) : Rel G σ (d.Vw k) (d.n k) w := by
  have hval : ∀ i b, (d.Vw k).get i = some b → (d.H k).get i = some b ∧ Valid d ops.size L k i := fun i b h => by
    obtain ⟨h1, h2⟩ := hd.view k i b hk h
    exact ⟨h1, hI.view hd hk hL hr (hbnd i b h1) h2⟩
  refine ⟨fun i b h => hbnd i b (hval i b h).1, fun i b h => (hI.blk k i b (hval i b h).2 (hval i b h).1).2, fun i j b c h h' hw hij => hI.inj k k i j b c (hval i b h).2 (hval j c h').2 (hval i b h).1 (hval j c h').1 hw hij, fun g hg => ?_⟩
  obtain ⟨h1, h2⟩ := hI.glob g hg
  exact ⟨⟨Nat.lt_of_lt_of_le h1.1 (n_mono hd (Nat.zero_le k) (Nat.le_of_lt hk)), h1.2⟩, h2⟩

end Go.AL
