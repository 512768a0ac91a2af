/- A region that draws its order: one operation more is done. -/
import Derived.Test.YtonhkjkdmfaodaaGreatDoorALDraw2
set_option linter.unusedVariables false
set_option linter.unusedSimpArgs false
namespace Go.AL
open Go.RowKit

variable {P : Program} {G lo N : Nat} {ops : Array Oper} {d : Draw} {E : Env} {H : Heap} {n : Nat}
variable {σ0 : Nat → Loc} {w0 : World} {D0 : List Deferred} {L : Nat → Prop} {σ σ' : Nat → Loc} {a : Act} {w w' : World}

def mrg (d : Draw) (k : Nat) (σ σ' : Nat → Loc) : Nat → Loc := fun i => if d.n k ≤ i ∧ i < d.n (k + 1) then σ' i else σ i

theorem opAt {x : Nat} (hx : x < ops.size) : ops[x]? = some (ops[x]!) := by simp [hx]

/-- Of what operation k touches, nothing later that is done touches it. -/
theorem later (hd : DrawOk P lo ops E H n d) (hI : DInv G lo N ops d σ0 w0 D0 L σ a w) {k : Nat} (hk : k < ops.size) (hL : ¬ L k) {i p : Nat} (ha : Aff d k i) (hp : p ≤ ops.size)
    (hv : ∀ j, j < ops.size → Aff d j i → ((L j ∨ j = k) ↔ j < p)) : k < p ∧ ∀ j, k + 1 ≤ j → j < p → ¬ Aff d j i := by
  refine ⟨(hv k hk ha).1 (.inr rfl), fun j h1 h2 hj => ?_⟩
  have hjs : j < ops.size := by omega
  have hLj : L j := by
    rcases (hv j hjs hj).2 h2 with h | h
    · exact h
    · omega
  have hi : i < d.n (k + 1) := by
    rcases ha with h | ⟨_, h⟩
    · exact Nat.lt_of_lt_of_le (hd.wrlt k i h) (hd.le k hk)
    · exact h
  have hwj : d.wr j i := by
    rcases hj with h | ⟨h, _⟩
    · exact h
    · have := n_mono hd h1 (Nat.le_of_lt hjs); omega
  rcases hd.ord k j _ _ (by omega) (opAt hk) (opAt hjs) with h | ⟨_, h3, _, _⟩
  · exact hL (hI.down k j h hLj)
  · rcases ha with h | ⟨h4, h5⟩
    · rcases hd.ord k j _ _ (by omega) (opAt hk) (opAt hjs) with h' | ⟨_, _, h6, _⟩
      · exact hL (hI.down k j h' hLj)
      · exact h6 i h (hd.wrv j i hwj)
    · exact h3 i h4 h5 (hd.wrv j i hwj)

theorem valid_old {k p i : Nat} (hk : k < ops.size) (ha : ¬ Aff d k i) (h : Valid d ops.size (fun j => L j ∨ j = k) p i) : Valid d ops.size L p i :=
  ⟨h.1, fun j hj haj => by
    have hne : j ≠ k := fun e => ha (e ▸ haj)
    have := h.2 j hj haj
    simp only [hne, or_false] at this
    exact this⟩

theorem DInv.tmps (hd : DrawOk P lo ops E H n d) (hI : DInv G lo N ops d σ0 w0 D0 L σ a w) {k : Nat} {o : Oper} (ho : ops[k]? = some o) (hL : ¬ L k) (hdst : ∀ t, o.dst = some t → t < N) {v' : Value}
    {τ : Nat → Loc} (hs : ∀ p, p ≤ ops.size → ∀ i, In σ (d.n p) i → τ i = σ i) (hv : VR τ (d.n (k + 1)) (d.v k) v') :
    ∀ p t, VTmp ops (fun j => L j ∨ j = k) p t → VR τ (d.n p) (d.E p t) ((a.put o.dst v').tmps.getD t undef) := by
  intro p t ht
  have hk : k < ops.size := (Array.getElem?_eq_some_iff.1 ho).1
  by_cases hdt : o.dst = some t
  · have hkp : k < p := (ht.2 k o ho hdt).1 (.inr rfl)
    have hE : d.E p t = d.E (k + 1) t := E_same hd (by omega) ht.1 (fun j oj h1 h2 h3 h4 => by
      have hLj : L j := by
        rcases (ht.2 j oj h3 h4).2 h2 with h | h
        · exact h
        · omega
      rcases hd.ord k j o oj (by omega) ho h3 with h | ⟨h, _⟩
      · exact hL (hI.down k j h hLj)
      · exact (Oper.apart_spec h).2.1 t hdt h4)
    rw [hE, hd.env k o ho, hdt]
    have hN := hdst t hdt
    have : ((a.put (some t) v').tmps.getD t undef) = v' := by
      simp [Act.put, Array.getD, hI.size, hN]
    rw [this]
    simp only [Env.put, if_true]
    exact hv.mono (fun _ _ => rfl) (n_mono hd (by omega) ht.1)
  · have hold : VTmp ops L p t := ⟨ht.1, fun j oj h1 h2 => by
      have hne : j ≠ k := fun e => by subst e; rw [ho] at h1; cases h1; exact hdt h2
      have := ht.2 j oj h1 h2
      simp only [hne, or_false] at this
      exact this⟩
    have hv0 := (hI.tmp p t hold).mono0 (fun i hi => hs p ht.1 i hi) (Nat.le_refl _)
    have : ((a.put o.dst v').tmps.getD t undef) = a.tmps.getD t undef := by
      cases hdd : o.dst with
      | none => rfl
      | some x =>
        have hx : x ≠ t := fun e => hdt (by rw [hdd, e])
        simp only [Act.put]
        rw [Array.getD_eq_getD_getElem?, Array.getD_eq_getD_getElem?, Array.getElem?_setIfInBounds, if_neg hx]
    rw [this]
    exact hv0

theorem DInv.skip (hd : DrawOk P lo ops E H n d) (hI : DInv G lo N ops d σ0 w0 D0 L σ a w) {k : Nat} {o : Oper} (ho : ops[k]? = some o) (hL : ¬ L k) (hr : ∀ j, Anc ops j k → L j) (hdst : ∀ t, o.dst = some t → t < N)
    (hw : wantedE ops (d.E k) o = false) : DInv G lo N ops d σ0 w0 D0 (fun j => L j ∨ j = k) σ (a.put o.dst undef) w := by
  have hk : k < ops.size := (Array.getElem?_eq_some_iff.1 ho).1
  obtain ⟨hv, hn, hwr⟩ := hd.unw k o ho hw
  have hna : ∀ i, ¬ Aff d k i := by
    rintro i (h | ⟨h1, h2⟩)
    · exact hwr i h
    · omega
  refine { hI with
    lt := fun j hj => by rcases hj with h | rfl; exact hI.lt j h; exact hk
    down := fun i j hij hj => by
      rcases hj with h | rfl
      · exact .inl (hI.down i j hij h)
      · exact .inl (hr i hij)
    blk := fun p i b h hb => hI.blk p i b (valid_old hk (hna i) h) hb
    inj := fun p q i j b c h h' hb hc hwb hij => hI.inj p q i j b c (valid_old hk (hna i) h) (valid_old hk (hna j) h') hb hc hwb hij
    new := fun j i hj hLj h1 h2 => hI.new j i hj (fun h => hLj (.inl h)) h1 h2
    tmp := hI.tmps hd ho hL hdst (fun _ _ _ _ => rfl) (by rw [hv]; exact .undef)
    size := by cases o.dst <;> simp [Act.put, hI.size]
    defers := by rw [put_defers]; exact hI.defers
    dom := fun p i b h hi hb => hI.dom p i b (valid_old hk (hna i) h) hi hb
    fresh := fun j i hj h1 h2 => by
      rcases hj with h | rfl
      · exact hI.fresh j i h h1 h2
      · omega }

end Go.AL
