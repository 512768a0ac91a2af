/- How the abstract machine's states stand to the model's worlds. -/
import Derived.Test.YtonhkjkdmfaodaaGreatDoorALCore
set_option linter.unusedVariables false
set_option linter.unusedSimpArgs false
namespace Go.AL
open Go.RowKit

/-- Where an abstract block lies: its block, where in it it begins, how many cells that has, an element's size; may it be written? -/
structure Loc where
  blk : Nat
  off : Nat
  size : Nat
  es : Nat
  wr : Bool
  ok : Bool

/-- The number stands for a block. -/
def In (σ : Nat → Loc) (n i : Nat) : Prop := i < n ∧ (σ i).ok = true

inductive VR (σ : Nat → Loc) (n : Nat) : Value → Value → Prop
  | rig {v : Value} (h : rigid v = true) : VR σ n v v
  | ptr {i o : Nat} (h : In σ n i) : VR σ n (.pointer (some ⟨i, o, none⟩)) (.pointer (some ⟨(σ i).blk, (σ i).off + o, none⟩))
  | sl {i o len ca cc : Nat} (h : In σ n i) (hl : len ≤ cc) (h0 : ca = 0 → cc = 0) (h1 : ca = 1 → (σ i).wr = true → (σ i).off + o + cc * (σ i).es ≤ (σ i).size) :
      VR σ n (.slice (some ⟨i, o, none⟩) len ca) (.slice (some ⟨(σ i).blk, (σ i).off + o, none⟩) len cc)
  | sl0 {i o ca cc : Nat} {a : Addr} (h : In σ n i) (ha : a.spot = none) (h0 : ca = 0 → cc = 0) (h1 : ca ≠ 1) : VR σ n (.slice (some ⟨i, o, none⟩) 0 ca) (.slice (some a) 0 cc)
  | mp {i : Nat} (h : In σ n i) (h0 : (σ i).off = 0) : VR σ n (.map (some i)) (.map (some (σ i).blk))
  | yl {i : Nat} (h : In σ n i) (h0 : (σ i).off = 0) : VR σ n (.func (.yield i) #[] #[]) (.func (.yield (σ i).blk) #[] #[])
  | fn {f : Fn} {a a' b b' : Array Value} (hf : notYield f = true) (ha : a.size = a'.size) (hb : b.size = b'.size) (ra : ∀ (k : Nat) (x y : Value), a[k]? = some x → a'[k]? = some y → VR σ n x y)
      (rb : ∀ (k : Nat) (x y : Value), b[k]? = some x → b'[k]? = some y → VR σ n x y) : VR σ n (.func f a b) (.func f a' b')
  | ifc {t : TypeId} {v v' : Value} (h : VR σ n v v') : VR σ n (.iface t v) (.iface t v')
  | agg {a a' : Array Value} (ha : a.size = a'.size) (ra : ∀ (k : Nat) (x y : Value), a[k]? = some x → a'[k]? = some y → VR σ n x y) : VR σ n (.agg a) (.agg a')
  | tup {a a' : Array Value} (ha : a.size = a'.size) (ra : ∀ (k : Nat) (x y : Value), a[k]? = some x → a'[k]? = some y → VR σ n x y) : VR σ n (.tuple a) (.tuple a')

theorem In.mono {σ σ' : Nat → Loc} {n n' i : Nat} (hs : ∀ i, In σ n i → σ' i = σ i) (hn : n ≤ n') (h : In σ n i) : In σ' n' i := ⟨Nat.lt_of_lt_of_le h.1 hn, by rw [hs i h]; exact h.2⟩
theorem VR.mono0 {σ σ' : Nat → Loc} {n n' : Nat} (hs : ∀ i, In σ n i → σ' i = σ i) (hn : n ≤ n') {v v' : Value} (h : VR σ n v v') : VR σ' n' v v' := by
  induction h with
  | rig h => exact .rig h
  | @ptr i o h => rw [← hs i h]; exact .ptr (h.mono hs hn)
  | @sl i o len ca cc h hl h0 h1 => rw [← hs i h] at h1 ⊢; exact .sl (h.mono hs hn) hl h0 h1
  | sl0 h ha h0 h1 => exact .sl0 (h.mono hs hn) ha h0 h1
  | @mp i h h0 => rw [← hs i h] at h0 ⊢; exact .mp (h.mono hs hn) h0
  | @yl i h h0 => rw [← hs i h] at h0 ⊢; exact .yl (h.mono hs hn) h0
  | fn hf ha hb _ _ iha ihb => exact .fn hf ha hb iha ihb
  | ifc _ ih => exact .ifc ih
  | agg ha _ ih => exact .agg ha ih
  | tup ha _ ih => exact .tup ha ih
theorem VR.mono {σ σ' : Nat → Loc} {n n' : Nat} (hs : ∀ i, i < n → σ' i = σ i) (hn : n ≤ n') {v v' : Value} (h : VR σ n v v') : VR σ' n' v v' := h.mono0 (fun i hi => hs i hi.1) hn

theorem arr_eq_of {a a' : Array Value} {R : Value → Value → Prop} {p : Value → Bool} (hs : a.size = a'.size) (hp : a.toList.all p = true) (hr : ∀ (k : Nat) (x y : Value), a[k]? = some x → a'[k]? = some y → R x y)
    (h : ∀ x y, p x = true → R x y → x = y) : a = a' := by
  apply Array.ext hs
  intro k h1 h2
  refine h _ _ ?_ (hr k _ _ (Array.getElem?_eq_getElem h1) (Array.getElem?_eq_getElem h2))
  rw [List.all_eq_true] at hp
  exact hp _ (by simp)

theorem sc0_eq {σ : Nat → Loc} {n : Nat} {v v' : Value} (hv : sc0 v = true) (h : VR σ n v v') : v = v' := by
  cases h with
  | rig => rfl
  | ptr => simp [sc0] at hv
  | sl => simp [sc0] at hv
  | sl0 => simp [sc0] at hv
  | mp => simp [sc0] at hv
  | yl => simp [sc0, notYield] at hv
  | @fn f a a' b b' hf ha hb _ _ =>
    simp only [sc0, Bool.and_eq_true, List.isEmpty_iff, Array.toList_eq_nil_iff] at hv
    obtain ⟨⟨_, rfl⟩, rfl⟩ := hv
    simp only [List.size_toArray, List.length_nil] at ha hb
    rw [Array.eq_empty_of_size_eq_zero ha.symm, Array.eq_empty_of_size_eq_zero hb.symm]
  | ifc => simp [sc0] at hv
  | agg => simp [sc0] at hv
  | tup => simp [sc0] at hv
theorem sc1_eq {σ : Nat → Loc} {n : Nat} {v v' : Value} (hv : sc1 v = true) (h : VR σ n v v') : v = v' := by
  cases h with
  | rig => rfl
  | @ifc t x x' h =>
    congr 1
    cases x with
    | agg cs =>
      cases h with
      | rig => rfl
      | agg ha ra => rw [arr_eq_of ha (by simpa [sc1] using hv) ra (fun x y => sc0_eq)]
    | _ => exact sc0_eq (by simpa [sc1] using hv) h
  | ptr h => exact sc0_eq (by simpa [sc1] using hv) (.ptr h)
  | sl h hl h0 h1 => exact sc0_eq (by simpa [sc1] using hv) (.sl h hl h0 h1)
  | sl0 h ha h0 h1 => simp [rigid, sc2, sc1, sc0] at hv
  | mp h h0 => exact sc0_eq (by simpa [sc1] using hv) (.mp h h0)
  | yl h h0 => exact sc0_eq (by simpa [sc1] using hv) (.yl h h0)
  | fn hf ha hb ra rb => exact sc0_eq (by simpa [sc1] using hv) (.fn hf ha hb ra rb)
  | agg ha ra => simp [sc1, sc0] at hv
  | tup ha ra => simp [sc1, sc0] at hv
theorem sc2_eq {σ : Nat → Loc} {n : Nat} {v v' : Value} (hv : sc2 v = true) (h : VR σ n v v') : v = v' := by
  cases h with
  | rig => rfl
  | agg ha ra => rw [arr_eq_of ha (by simpa [sc2] using hv) ra (fun x y => sc1_eq)]
  | ifc h => exact sc1_eq (by simpa [sc2] using hv) (.ifc h)
  | ptr h => exact sc1_eq (by simpa [sc2] using hv) (.ptr h)
  | sl h hl h0 h1 => exact sc1_eq (by simpa [sc2] using hv) (.sl h hl h0 h1)
  | sl0 h ha h0 h1 => simp [rigid, sc2, sc1, sc0] at hv
  | mp h h0 => exact sc1_eq (by simpa [sc2] using hv) (.mp h h0)
  | yl h h0 => exact sc1_eq (by simpa [sc2] using hv) (.yl h h0)
  | fn hf ha hb ra rb => exact sc1_eq (by simpa [sc2] using hv) (.fn hf ha hb ra rb)
  | tup ha ra => simp [sc2, sc1, sc0] at hv
theorem rigid_eq {σ : Nat → Loc} {n : Nat} {v v' : Value} (hv : rigid v = true) (h : VR σ n v v') : v = v' := by
  cases h with
  | rig => rfl
  | tup ha ra => rw [arr_eq_of ha (by simpa [rigid] using hv) ra (fun x y => sc2_eq)]
  | agg ha ra => exact sc2_eq (by simpa [rigid] using hv) (.agg ha ra)
  | ifc h => exact sc2_eq (by simpa [rigid] using hv) (.ifc h)
  | ptr h => exact sc2_eq (by simpa [rigid] using hv) (.ptr h)
  | sl h hl h0 h1 => exact sc2_eq (by simpa [rigid] using hv) (.sl h hl h0 h1)
  | sl0 h ha h0 h1 => simp [rigid, sc2, sc1, sc0] at hv
  | mp h h0 => exact sc2_eq (by simpa [rigid] using hv) (.mp h h0)
  | yl h h0 => exact sc2_eq (by simpa [rigid] using hv) (.yl h h0)
  | fn hf ha hb ra rb => exact sc2_eq (by simpa [rigid] using hv) (.fn hf ha hb ra rb)

/-- An entry of a map. -/
structure ER (σ : Nat → Loc) (n : Nat) (e c : MapEntry) : Prop where
  key : VR σ n e.key c.key
  val : VR σ n e.val c.val
  born : e.born = c.born

def Blk.wr : Blk → Bool
  | .ro _ => false
  | _ => true

/-- What a block says of the world. -/
def BR (σ : Nat → Loc) (n : Nat) (w : World) (i : Nat) : Blk → Prop
  | .cells vs t es => (σ i).off = 0 ∧ (σ i).wr = true ∧ (σ i).es = es ∧ ∃ cs, w.heap[(σ i).blk]? = some (.cells cs t (0, 0)) ∧ cs.size = (σ i).size ∧ vs.length ≤ cs.size ∧
      ∀ (k : Nat) (v : Value), vs[k]? = some v → ∃ c, cs[k]? = some c ∧ VR σ n v c
  | .ro vs => (σ i).wr = false ∧ (σ i).blk < w.heap.size ∧ ∀ (k : Nat) (v : Value), vs[k]? = some v → ∃ c, w.cell? ⟨(σ i).blk, (σ i).off + k, none⟩ = some c ∧ VR σ n v c
  | .map es clock => (σ i).off = 0 ∧ ∃ cs, w.heap[(σ i).blk]? = some (.map cs clock) ∧ cs.size = es.length ∧ ∀ (k : Nat) (e c : MapEntry), es[k]? = some e → cs[k]? = some c → ER σ n e c
  | .dfr => (σ i).off = 0 ∧ w.heap[(σ i).blk]? = some (.deferred (some []))
  | .sit s pos => (σ i).off = 0 ∧ w.heap[(σ i).blk]? = some (.stringIter s pos)
  | .loop E ps asg body st pend => (σ i).off = 0 ∧ ∃ r : Loop, w.heap[(σ i).blk]? = some (.loop r) ∧ r.state = st ∧ r.pending = pend ∧ r.params = ps ∧ r.assign = asg ∧ r.body = body ∧ E.size = r.tmps.size ∧
      ∀ (k : Nat) (x y : Value), E[k]? = some x → r.tmps[k]? = some y → VR σ n x y
  | .mit m since seen stepped => (σ i).off = 0 ∧ (∀ j, m = some j → In σ n j ∧ (σ j).off = 0) ∧ w.heap[(σ i).blk]? = some (.mapIter (m.map fun j => (σ j).blk) since seen.toArray stepped)

structure Rel (G : Nat) (σ : Nat → Loc) (H : Heap) (n : Nat) (w : World) : Prop where
  dom : ∀ i b, H.get i = some b → i < n
  blk : ∀ i b, H.get i = some b → BR σ n w i b
  inj : ∀ i j b c, H.get i = some b → H.get j = some c → b.wr = true → i ≠ j → (σ i).blk ≠ (σ j).blk
  glob : ∀ g, g < G → In σ n g ∧ (σ g).blk = g ∧ (σ g).off = 0

theorem Heap.get_upd_ne (H : Heap) {i j : Nat} (b : Option Blk) (h : j ≠ i) : (H.upd i b).get j = H.get j := by
  rw [Heap.get_upd]
  split
  · rename_i h1; simp [Heap.get, h1]
  · simp [h]
theorem Heap.get_upd_same (H : Heap) {i : Nat} (b c : Option Blk) (h : H.get i = c) (hc : c.isSome) : (H.upd i b).get i = b := by
  rw [Heap.get_upd]
  split
  · rename_i h1; simp [Heap.get, h1] at h; subst h; simp at hc
  · simp
theorem Heap.get_upd_some {H : Heap} {i j : Nat} {b : Option Blk} {c : Blk} (h : (H.upd i b).get j = some c) : (j = i ∧ b = some c) ∨ (j ≠ i ∧ H.get j = some c) := by
  rw [Heap.get_upd] at h
  split at h
  · cases h
  · split at h
    · rename_i e; exact .inl ⟨e, h⟩
    · rename_i e; exact .inr ⟨e, h⟩

/-- What a part of a run may have done: new numbers; of the standing blocks only such as it sees, may write, and that are not below lo. -/
structure Moves (lo : Nat) (σ : Nat → Loc) (H : Heap) (n : Nat) (w : World) (σ' : Nat → Loc) (H' : Heap) (n' : Nat) (w' : World) : Prop where
  same : ∀ i, i < n → σ' i = σ i
  le : n ≤ n'
  bnd : ∀ i b, H'.get i = some b → i < n'
  dom : ∀ i b, i < n → H'.get i = some b → ∃ c, H.get i = some c ∧ c.wr = b.wr
  frame : ∀ i, i < lo → i < n → H'.get i = H.get i
  fresh : ∀ i, n ≤ i → i < n' → w.heap.size ≤ (σ' i).blk ∨ ∃ j b, lo ≤ j ∧ H.get j = some b ∧ b.wr = true ∧ (σ' i).blk = (σ j).blk
  os : w'.os = w.os
  tape : w'.tape = w.tape
  output : w'.output = w.output
  size : w.heap.size ≤ w'.heap.size
  keep : ∀ b, b < w.heap.size → (∀ j c, lo ≤ j → H.get j = some c → c.wr = true → (σ j).blk ≠ b) → w'.heap[b]? = w.heap[b]?

theorem Moves.refl {G lo : Nat} {σ : Nat → Loc} {H : Heap} {n : Nat} {w : World} (hR : Rel G σ H n w) : Moves lo σ H n w σ H n w :=
  ⟨fun _ _ => rfl, Nat.le_refl _, hR.dom, fun i b _ h => ⟨b, h, rfl⟩, fun _ _ _ => rfl, fun i h h' => by omega, rfl, rfl, rfl, Nat.le_refl _, fun _ _ _ => rfl⟩
theorem Moves.drew {G lo : Nat} {σ : Nat → Loc} {H : Heap} {n : Nat} {w : World} (hR : Rel G σ H n w) : Moves lo σ H n w σ H n w.drew :=
  ⟨fun _ _ => rfl, Nat.le_refl _, hR.dom, fun i b _ h => ⟨b, h, rfl⟩, fun _ _ _ => rfl, fun i h h' => by omega, rfl, rfl, rfl, Nat.le_refl _, fun _ _ _ => rfl⟩
theorem Moves.trans {lo : Nat} {σ σ1 σ2 : Nat → Loc} {H H1 H2 : Heap} {n n1 n2 : Nat} {w w1 w2 : World} (h : Moves lo σ H n w σ1 H1 n1 w1) (k : Moves lo σ1 H1 n1 w1 σ2 H2 n2 w2) : Moves lo σ H n w σ2 H2 n2 w2 where
  same i hi := (k.same i (Nat.lt_of_lt_of_le hi h.le)).trans (h.same i hi)
  le := Nat.le_trans h.le k.le
  bnd := k.bnd
  dom i b hi hb := by
    obtain ⟨c, hc, e⟩ := k.dom i b (Nat.lt_of_lt_of_le hi h.le) hb
    obtain ⟨d, hd, e'⟩ := h.dom i c hi hc
    exact ⟨d, hd, e'.trans e⟩
  frame i h1 h2 := (k.frame i h1 (Nat.lt_of_lt_of_le h2 h.le)).trans (h.frame i h1 h2)
  fresh i h1 h2 := by
    rcases Nat.lt_or_ge i n1 with h3 | h3
    · rw [k.same i h3]; exact h.fresh i h1 h3
    · rcases k.fresh i h3 h2 with h4 | ⟨j, b, hj, hb, hw, h4⟩
      · exact .inl (Nat.le_trans h.size h4)
      · rcases Nat.lt_or_ge j n with h5 | h5
        · obtain ⟨c, hc, e⟩ := h.dom j b h5 hb
          exact .inr ⟨j, c, hj, hc, e.trans hw, by rw [h4, h.same j h5]⟩
        · rcases h.fresh j h5 (h.bnd j b hb) with h6 | ⟨j', b', x, y, z, u⟩
          · exact .inl (by rw [h4]; exact h6)
          · exact .inr ⟨j', b', x, y, z, by rw [h4, u]⟩
  os := k.os.trans h.os
  tape := k.tape.trans h.tape
  output := k.output.trans h.output
  size := Nat.le_trans h.size k.size
  keep b hb hj := by
    rw [k.keep b (Nat.lt_of_lt_of_le hb h.size) (fun j c h1 h2 hw => ?_), h.keep b hb hj]
    rcases Nat.lt_or_ge j n with h5 | h5
    · obtain ⟨d, hd, e⟩ := h.dom j c h5 h2
      rw [h.same j h5]; exact hj j d h1 hd (e.trans hw)
    · rcases h.fresh j h5 (h.bnd j c h2) with h6 | ⟨j', b', x, y, z, u⟩
      · omega
      · rw [u]; exact hj j' b' x y z
theorem Moves.lower {lo lo' : Nat} {σ σ1 : Nat → Loc} {H H1 : Heap} {n n1 : Nat} {w w1 : World} (h : Moves lo σ H n w σ1 H1 n1 w1) (hl : lo' ≤ lo) : Moves lo' σ H n w σ1 H1 n1 w1 :=
  { h with
    frame := fun i h1 h2 => h.frame i (Nat.lt_of_lt_of_le h1 hl) h2
    fresh := fun i h1 h2 => (h.fresh i h1 h2).imp id (fun ⟨j, b, x, y⟩ => ⟨j, b, Nat.le_trans hl x, y⟩)
    keep := fun b hb hj => h.keep b hb (fun j c h1 h2 => hj j c (Nat.le_trans hl h1) h2) }

/-- A heap that shows less. -/
theorem Moves.weaken {lo : Nat} {σ σ1 : Nat → Loc} {H H0 H1 : Heap} {n n1 : Nat} {w w1 : World} (h : Moves lo σ H0 n w σ1 H1 n1 w1) (hs : ∀ j c, H0.get j = some c → H.get j = some c) (hf : ∀ j, j < lo → H0.get j = H.get j) : Moves lo σ H n w σ1 H1 n1 w1 :=
  { h with
    dom := fun i b h1 h2 => (h.dom i b h1 h2).imp fun c ⟨x, y⟩ => ⟨hs _ _ x, y⟩
    frame := fun i h1 h2 => (h.frame i h1 h2).trans (hf i h1)
    fresh := fun i h1 h2 => (h.fresh i h1 h2).imp id (fun ⟨j, b, x, y, z⟩ => ⟨j, b, x, hs _ _ y, z⟩)
    keep := fun b hb hj => h.keep b hb (fun j c h1 h2 hw => hj j c h1 (hs _ _ h2) hw) }

theorem VR.moves {lo n n' : Nat} {σ σ' : Nat → Loc} {H H' : Heap} {w w' : World} (m : Moves lo σ H n w σ' H' n' w') {v v' : Value} (h : VR σ n v v') : VR σ' n' v v' := h.mono m.same m.le

/-! ### Movers of Rel -/
theorem BR.move0 {σ σ' : Nat → Loc} {n n' : Nat} {w w' : World} {i : Nat} {b : Blk} (hs : ∀ j, In σ n j → σ' j = σ j) (hn : n ≤ n') (hi : σ' i = σ i) (hw : w'.heap[(σ i).blk]? = w.heap[(σ i).blk]?)
    (hz : w.heap.size ≤ w'.heap.size) (h : BR σ n w i b) : BR σ' n' w' i b := by
  cases b with
  | cells vs t es =>
    obtain ⟨h1, h2, h3, cs, h4, h5, h6, h7⟩ := h
    refine ⟨by rw [hi]; exact h1, by rw [hi]; exact h2, by rw [hi]; exact h3, cs, by rw [hi, hw]; exact h4, by rw [hi]; exact h5, h6, fun k v hv => ?_⟩
    obtain ⟨c, hc, hr⟩ := h7 k v hv
    exact ⟨c, hc, hr.mono0 hs hn⟩
  | ro vs =>
    obtain ⟨h1, h2, h3⟩ := h
    refine ⟨by rw [hi]; exact h1, by rw [hi]; exact Nat.lt_of_lt_of_le h2 hz, fun k v hv => ?_⟩
    obtain ⟨c, hc, hr⟩ := h3 k v hv
    refine ⟨c, ?_, hr.mono0 hs hn⟩
    rw [hi, World.cell?_of_block (w := w) (w' := w') hw]
    exact hc
  | map es clock =>
    obtain ⟨h1, cs, h4, h5, h6⟩ := h
    exact ⟨by rw [hi]; exact h1, cs, by rw [hi, hw]; exact h4, h5, fun k e c he hc => let ⟨a, b, d⟩ := h6 k e c he hc; ⟨a.mono0 hs hn, b.mono0 hs hn, d⟩⟩
  | loop E ps asg body st pend =>
    obtain ⟨h1, r, h2, h3, h4, h5, h6, h7, h8, h9⟩ := h
    exact ⟨by rw [hi]; exact h1, r, by rw [hi, hw]; exact h2, h3, h4, h5, h6, h7, h8, fun k x y hx hy => (h9 k x y hx hy).mono0 hs hn⟩
  | dfr => exact ⟨by rw [hi]; exact h.1, by rw [hi, hw]; exact h.2⟩
  | sit s pos =>
    exact ⟨by rw [hi]; exact h.1, by rw [hi, hw]; exact h.2⟩
  | mit m since seen stepped =>
    obtain ⟨h1, h2, h3⟩ := h
    refine ⟨by rw [hi]; exact h1, fun j hj => ⟨(h2 j hj).1.mono hs hn, by rw [hs j (h2 j hj).1]; exact (h2 j hj).2⟩, ?_⟩
    rw [hi, hw, h3]
    cases m with
    | none => rfl
    | some j => simp only [Option.map_some]; rw [hs j (h2 j rfl).1]
theorem BR.move {σ σ' : Nat → Loc} {n n' : Nat} {w w' : World} {i : Nat} {b : Blk} (hs : ∀ j, j < n → σ' j = σ j) (hn : n ≤ n') (hi : i < n) (hw : w'.heap[(σ i).blk]? = w.heap[(σ i).blk]?)
    (hz : w.heap.size ≤ w'.heap.size) (h : BR σ n w i b) : BR σ' n' w' i b := h.move0 (fun j hj => hs j hj.1) hn (hs i hi) hw hz

theorem BR.lt {σ : Nat → Loc} {n : Nat} {w : World} {i : Nat} {b : Blk} (h : BR σ n w i b) : (σ i).blk < w.heap.size := by
  cases b with
  | cells vs t es => obtain ⟨_, _, _, cs, h4, _⟩ := h; exact (Array.getElem?_eq_some_iff.1 h4).1
  | ro vs => exact h.2.1
  | map es clock => obtain ⟨_, cs, h4, _⟩ := h; exact (Array.getElem?_eq_some_iff.1 h4).1
  | loop E ps asg body st pend => obtain ⟨_, r, h2, _⟩ := h; exact (Array.getElem?_eq_some_iff.1 h2).1
  | dfr => exact (Array.getElem?_eq_some_iff.1 h.2).1
  | sit s pos => exact (Array.getElem?_eq_some_iff.1 h.2).1
  | mit m since seen stepped => exact (Array.getElem?_eq_some_iff.1 h.2.2).1

def put1 (σ : Nat → Loc) (n : Nat) (l : Loc) : Nat → Loc := fun i => if i = n then l else σ i
theorem put1_same (σ : Nat → Loc) (n : Nat) (l : Loc) : ∀ i, i < n → put1 σ n l i = σ i := fun i h => by simp [put1, Nat.ne_of_lt h]
theorem put1_new (σ : Nat → Loc) (n : Nat) (l : Loc) : put1 σ n l n = l := by simp [put1]

/-- A new number for a block that no standing number has. -/
theorem Rel.put {G : Nat} {σ : Nat → Loc} {H : Heap} {n : Nat} {w w' : World} (hR : Rel G σ H n w) {b : Blk} {l : Loc} (hz : w.heap.size ≤ w'.heap.size)
    (hne : ∀ j c, H.get j = some c → (σ j).blk ≠ l.blk) (hk : ∀ j c, H.get j = some c → w'.heap[(σ j).blk]? = w.heap[(σ j).blk]?) (hb : BR (put1 σ n l) (n + 1) w' n b) :
    Rel G (put1 σ n l) (H.upd n (some b)) (n + 1) w' := by
  have key : ∀ i c, (H.upd n (some b)).get i = some c → (i = n ∧ c = b) ∨ (i ≠ n ∧ H.get i = some c) := by
    intro i c h
    rw [Heap.get_upd] at h
    split at h
    · cases h
    · split at h
      · rename_i e; exact .inl ⟨e, by simpa using h.symm⟩
      · rename_i e; exact .inr ⟨e, h⟩
  refine ⟨fun i c h => ?_, fun i c h => ?_, fun i j c d h h' hw hij => ?_, fun g hg => ?_⟩
  · rcases key i c h with ⟨rfl, _⟩ | ⟨_, h⟩
    · omega
    · have := hR.dom i c h; omega
  · rcases key i c h with ⟨rfl, rfl⟩ | ⟨hne', h⟩
    · exact hb
    · exact (hR.blk i c h).move (put1_same σ n l) (by omega) (hR.dom i c h) (hk i c h) hz
  · rcases key i c h with ⟨e1, e2⟩ | ⟨hi, h0⟩
    · rcases key j d h' with ⟨e3, _⟩ | ⟨hj, h1⟩
      · exact absurd (e1.trans e3.symm) hij
      · rw [e1, put1_new, put1_same σ _ l j (hR.dom j d h1)]
        exact fun e => hne j d h1 e.symm
    · rcases key j d h' with ⟨e3, _⟩ | ⟨hj, h1⟩
      · rw [e3, put1_new, put1_same σ _ l i (hR.dom i c h0)]
        exact hne i c h0
      · rw [put1_same σ _ l i (hR.dom i c h0), put1_same σ _ l j (hR.dom j d h1)]
        exact hR.inj i j c d h0 h1 hw hij
  · have := hR.glob g hg
    exact ⟨this.1.mono (fun i hi => put1_same σ n l i hi.1) (by omega), by rw [put1_same σ n l g this.1.1]; exact this.2⟩

theorem Rel.kill {G : Nat} {σ : Nat → Loc} {H : Heap} {n : Nat} {w : World} (hR : Rel G σ H n w) (i : Nat) : Rel G σ (H.upd i none) n w := by
  have key : ∀ j c, (H.upd i none).get j = some c → j ≠ i ∧ H.get j = some c := by
    intro j c h
    rw [Heap.get_upd] at h
    split at h
    · cases h
    · split at h
      · cases h
      · rename_i e; exact ⟨e, h⟩
  exact ⟨fun j c h => hR.dom j c (key j c h).2, fun j c h => hR.blk j c (key j c h).2, fun j k c d h h' hw hjk => hR.inj j k c d (key j c h).2 (key k d h').2 hw hjk, hR.glob⟩

/-- A standing block that may be written is another one now. -/
theorem Rel.write {G : Nat} {σ : Nat → Loc} {H : Heap} {n : Nat} {w w' : World} (hR : Rel G σ H n w) {i : Nat} {b b' : Blk} (hi : H.get i = some b) (hw : b.wr = true) (hw' : b'.wr = true) (hz : w.heap.size ≤ w'.heap.size)
    (hk : ∀ k, k ≠ (σ i).blk → w'.heap[k]? = w.heap[k]?) (hb : BR σ n w' i b') : Rel G σ (H.upd i (some b')) n w' := by
  have key : ∀ j c, (H.upd i (some b')).get j = some c → (j = i ∧ c = b') ∨ (j ≠ i ∧ H.get j = some c) := by
    intro j c h
    rw [Heap.get_upd] at h
    split at h
    · cases h
    · split at h
      · rename_i e; exact .inl ⟨e, by simpa using h.symm⟩
      · rename_i e; exact .inr ⟨e, h⟩
  refine ⟨fun j c h => ?_, fun j c h => ?_, fun j k c d h h' hwj hjk => ?_, hR.glob⟩
  · rcases key j c h with ⟨rfl, _⟩ | ⟨_, h⟩
    · exact hR.dom _ _ hi
    · exact hR.dom j c h
  · rcases key j c h with ⟨rfl, rfl⟩ | ⟨hne, h⟩
    · exact hb
    · exact (hR.blk j c h).move (fun _ _ => rfl) (Nat.le_refl _) (hR.dom j c h) (hk _ (fun e => hR.inj i j b c hi h hw (Ne.symm hne) e.symm)) hz
  · rcases key j c h with ⟨e1, _⟩ | ⟨hj, h0⟩
    · rcases key k d h' with ⟨e3, _⟩ | ⟨hk', h1⟩
      · exact absurd (e1.trans e3.symm) hjk
      · rw [e1]; exact hR.inj i k b d hi h1 hw (fun e => hjk (e1.trans e))
    · rcases key k d h' with ⟨e3, _⟩ | ⟨hk', h1⟩
      · rw [e3]; exact fun e => hR.inj i j b c hi h0 hw (fun e' => hjk (e'.symm.trans e3.symm)) e.symm
      · exact hR.inj j k c d h0 h1 hwj hjk

theorem Moves.alloc {G lo : Nat} {σ : Nat → Loc} {H : Heap} {n : Nat} {w : World} (hR : Rel G σ H n w) (o : Obj) (l : Loc) (b : Blk) (hl : l.blk = w.heap.size) : Moves lo σ H n w (put1 σ n l) (H.upd n (some b)) (n + 1) (w.alloc o) where
  same := put1_same σ n l
  le := Nat.le_succ n
  bnd i c h := by
    rcases Heap.get_upd_some h with ⟨rfl, _⟩ | ⟨_, h⟩
    · omega
    · have := hR.dom i c h; omega
  dom i c hi h := by
    rcases Heap.get_upd_some h with ⟨rfl, _⟩ | ⟨_, h⟩
    · omega
    · exact ⟨c, h, rfl⟩
  frame i _ h2 := Heap.get_upd_ne H _ (by omega)
  fresh i h1 h2 := by
    have : i = n := by omega
    subst this
    rw [put1_new, hl]
    exact .inl (Nat.le_refl _)
  os := rfl
  tape := rfl
  output := rfl
  size := by simp
  keep b hb _ := Below.heap_alloc w o b hb
theorem Moves.write {G lo : Nat} {σ : Nat → Loc} {H : Heap} {n : Nat} {w w' : World} (hR : Rel G σ H n w) {i : Nat} {b : Blk} {b' : Option Blk} (hl : lo ≤ i) (hi : H.get i = some b) (hw : b.wr = true) (hw' : ∀ c, b' = some c → c.wr = true)
    (ho : w'.os = w.os) (ht : w'.tape = w.tape) (hu : w'.output = w.output) (hz : w.heap.size ≤ w'.heap.size)
    (hk : ∀ k, k ≠ (σ i).blk → w'.heap[k]? = w.heap[k]?) : Moves lo σ H n w σ (H.upd i b') n w' where
  same _ _ := rfl
  le := Nat.le_refl _
  bnd j c h := by
    rcases Heap.get_upd_some h with ⟨rfl, _⟩ | ⟨_, h⟩
    · exact hR.dom _ _ hi
    · exact hR.dom j c h
  dom j c hj h := by
    rcases Heap.get_upd_some h with ⟨rfl, e⟩ | ⟨_, h⟩
    · exact ⟨b, hi, hw.trans (hw' c e).symm⟩
    · exact ⟨c, h, rfl⟩
  frame j h1 _ := Heap.get_upd_ne H _ (by omega)
  fresh i h1 h2 := by omega
  os := ho
  tape := ht
  output := hu
  size := hz
  keep c hb hj := hk c (fun e => hj i b hl hi hw e.symm)

theorem Rel.alloc {G : Nat} {σ : Nat → Loc} {H : Heap} {n : Nat} {w : World} (hR : Rel G σ H n w) {b : Blk} {l : Loc} {o : Obj} (hl : l.blk = w.heap.size) (hb : BR (put1 σ n l) (n + 1) (w.alloc o) n b) :
    Rel G (put1 σ n l) (H.upd n (some b)) (n + 1) (w.alloc o) :=
  hR.put (by simp) (fun j c h => by rw [hl]; exact Nat.ne_of_lt (hR.blk j c h).lt) (fun j c h => Below.heap_alloc w o _ (hR.blk j c h).lt) hb

/-- A block that is given up may change. -/
theorem Rel.giveUp {G : Nat} {σ : Nat → Loc} {H : Heap} {n : Nat} {w w' : World} (hR : Rel G σ H n w) {i : Nat} {b : Blk} (hi : H.get i = some b) (hw : b.wr = true) (hz : w.heap.size ≤ w'.heap.size)
    (hk : ∀ k, k ≠ (σ i).blk → w'.heap[k]? = w.heap[k]?) : Rel G σ (H.upd i none) n w' := by
  have key : ∀ j c, (H.upd i none).get j = some c → j ≠ i ∧ H.get j = some c := by
    intro j c h
    rcases Heap.get_upd_some h with ⟨_, e⟩ | h
    · cases e
    · exact h
  exact ⟨fun j c h => hR.dom j c (key j c h).2, fun j c h => (hR.blk j c (key j c h).2).move (fun _ _ => rfl) (Nat.le_refl _) (hR.dom j c (key j c h).2) (hk _ (hR.inj i j b c hi (key j c h).2 hw (Ne.symm (key j c h).1)).symm) hz,
    fun j k c d h h' hw hjk => hR.inj j k c d (key j c h).2 (key k d h').2 hw hjk, hR.glob⟩

theorem Rel.drew {G : Nat} {σ : Nat → Loc} {H : Heap} {n : Nat} {w : World} (hR : Rel G σ H n w) : Rel G σ H n w.drew :=
  ⟨hR.dom, fun i b h => (hR.blk i b h).move (fun _ _ => rfl) (Nat.le_refl _) (hR.dom i b h) rfl (Nat.le_refl _), hR.inj, hR.glob⟩

end Go.AL
