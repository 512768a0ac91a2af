/- The evaluator's tables, for any program. -/
import Derived.Test.YtonhkjkdmfaodaaGreatDoorALEvalS5
set_option linter.unusedVariables false
set_option linter.unusedSimpArgs false
namespace Go.AL
open Go.RowKit
noncomputable section

def keepF (fn : Func) : Option Func := match fn.body with | some _ => some fn | none => none
def FT.set (f : Nat) : FT → Nat → Option Func → FT :=
  Nat.rec (motive := fun _ => FT → Nat → Option Func → FT) (fun t _ _ => t) (fun _ ih t i b =>
    FT.rec (motive := fun _ => FT)
      (Bool.rec (motive := fun _ => FT) (Bool.rec (motive := fun _ => FT) (.node none .nil (ih .nil (Nat.sub (Nat.div i 2) 1) b)) (.node none (ih .nil (Nat.div i 2) b) .nil) (Nat.beq (Nat.mod i 2) 1)) (.node b .nil .nil) (Nat.beq i 0))
      (fun v l r _ _ => Bool.rec (motive := fun _ => FT) (Bool.rec (motive := fun _ => FT) (.node v l (ih r (Nat.sub (Nat.div i 2) 1) b)) (.node v (ih l (Nat.div i 2) b) r) (Nat.beq (Nat.mod i 2) 1)) (.node b l r) (Nat.beq i 0)) t) f
theorem FT.get_nil (i : Nat) : FT.get .nil i = none := rfl
theorem FT.get_node (v : Option Func) (l r : FT) (i : Nat) : FT.get (.node v l r) i = if i = 0 then v else if i % 2 = 1 then l.get (i / 2) else r.get (i / 2 - 1) := by
  show Bool.rec (motive := fun _ => Option Func) (Bool.rec (motive := fun _ => Option Func) (r.get (i / 2 - 1)) (l.get (i / 2)) (Nat.beq (i % 2) 1)) v (Nat.beq i 0) = _
  rw [brec_if, brec_if]
theorem FT.set_nil (f : Nat) (i : Nat) (b : Option Func) : FT.set (f + 1) .nil i b = if i = 0 then .node b .nil .nil else if i % 2 = 1 then .node none (FT.set f .nil (i / 2) b) .nil else .node none .nil (FT.set f .nil (i / 2 - 1) b) := by
  show Bool.rec (motive := fun _ => FT) (Bool.rec (motive := fun _ => FT) (.node none .nil (FT.set f .nil (i / 2 - 1) b)) (.node none (FT.set f .nil (i / 2) b) .nil) (Nat.beq (i % 2) 1)) (.node b .nil .nil) (Nat.beq i 0) = _
  rw [brec_if, brec_if]
theorem FT.set_node (f : Nat) (v : Option Func) (l r : FT) (i : Nat) (b : Option Func) : FT.set (f + 1) (.node v l r) i b = if i = 0 then .node b l r else if i % 2 = 1 then .node v (l.set f (i / 2) b) r else .node v l (r.set f (i / 2 - 1) b) := by
  show Bool.rec (motive := fun _ => FT) (Bool.rec (motive := fun _ => FT) (.node v l (r.set f (i / 2 - 1) b)) (.node v (l.set f (i / 2) b) r) (Nat.beq (i % 2) 1)) (.node b l r) (Nat.beq i 0) = _
  rw [brec_if, brec_if]
theorem FT.get_set (b : Option Func) : ∀ (f : Nat) (t : FT) (i j : Nat), i < f → (t.set f i b).get j = if j = i then b else t.get j := by
  intro f
  induction f with
  | zero => intro t i j h; omega
  | succ f ih =>
    intro t i j h
    have hn : ∀ t : FT, FT.set (f + 1) t i b = if i = 0 then .node b (match t with | .nil => .nil | .node _ l _ => l) (match t with | .nil => .nil | .node _ _ r => r) else if i % 2 = 1 then .node (match t with | .nil => none | .node v _ _ => v) ((match t with | .nil => .nil | .node _ l _ => l : FT).set f (i / 2) b) (match t with | .nil => .nil | .node _ _ r => r) else .node (match t with | .nil => none | .node v _ _ => v) (match t with | .nil => .nil | .node _ l _ => l) ((match t with | .nil => .nil | .node _ _ r => r : FT).set f (i / 2 - 1) b) := by
      intro t; cases t
      · rw [FT.set_nil]
      · rw [FT.set_node]
    have hg : ∀ t : FT, t.get j = if j = 0 then (match t with | .nil => none | .node v _ _ => v) else if j % 2 = 1 then (match t with | .nil => .nil | .node _ l _ => l : FT).get (j / 2) else (match t with | .nil => .nil | .node _ _ r => r : FT).get (j / 2 - 1) := by
      intro t; cases t
      · simp [FT.get_nil]
      · rw [FT.get_node]
    rw [hn, hg t]
    generalize (match t with | .nil => none | .node v _ _ => v) = tv
    generalize (match t with | .nil => .nil | .node _ l _ => l : FT) = tl
    generalize (match t with | .nil => .nil | .node _ _ r => r : FT) = tr
    by_cases hi : i = 0
    · subst hi
      rw [if_pos rfl, FT.get_node]
      by_cases hj : j = 0 <;> simp [hj]
    · rw [if_neg hi]
      by_cases ho : i % 2 = 1
      · rw [if_pos ho, FT.get_node, ih _ _ _ (by omega)]
        by_cases hj : j = 0
        · simp [hj, Ne.symm hi]
        · by_cases hp : j % 2 = 1
          · by_cases e : j = i
            · subst e; simp [hj, hp]
            · simp [hj, hp, e, show ¬ j / 2 = i / 2 by omega]
          · simp [hj, hp, show ¬ j = i by intro e; subst e; exact hp ho]
      · rw [if_neg ho, FT.get_node, ih _ _ _ (by omega)]
        by_cases hj : j = 0
        · simp [hj, Ne.symm hi]
        · by_cases hp : j % 2 = 1
          · simp [hj, hp, show ¬ j = i by intro e; subst e; exact ho hp]
          · by_cases e : j = i
            · subst e; simp [hj, hp]
            · simp [hj, hp, e, show ¬ j / 2 - 1 = i / 2 - 1 by omega]
def FT.ofL : List Func → Nat → FT → FT
  | [], _, t => t
  | v :: r, k, t => FT.ofL r (k + 1) (t.set (k + 1) k (keepF v))
theorem FT.get_ofL : ∀ (l : List Func) (k : Nat) (t : FT) (j : Nat), (FT.ofL l k t).get j = if k ≤ j ∧ j < k + l.length then (l[j - k]?).bind keepF else t.get j
  | [], k, t, j => by simp [FT.ofL]; intro h1 h2; omega
  | v :: r, k, t, j => by
    rw [FT.ofL, FT.get_ofL r, FT.get_set _ (k + 1) t k j (by omega)]
    by_cases h : j = k
    · subst h; rw [if_neg (by omega), if_pos rfl, if_pos (by simp)]; simp
    · by_cases h2 : k + 1 ≤ j ∧ j < k + 1 + r.length
      · rw [if_pos h2, if_pos (by simp; omega)]
        obtain ⟨d, rfl⟩ : ∃ d, j = k + 1 + d := ⟨j - (k + 1), by omega⟩
        rw [show k + 1 + d - (k + 1) = d by omega, show k + 1 + d - k = d + 1 by omega]; rfl
      · rw [if_neg h2, if_neg h, if_neg (by simp; omega)]
def FofP (P : Program) (g : FuncId) : Option Func := (FT.ofL P.funcs.toList 0 .nil).get g
theorem FofP_fn {P : Program} {g : FuncId} {fn : Func} (h : FofP P g = some fn) : P.funcs[g]? = some fn ∧ fn.body.isSome = true := by
  unfold FofP at h
  rw [FT.get_ofL] at h
  split at h
  · simp only [Nat.sub_zero, Array.getElem?_toList, Option.bind_eq_some_iff] at h
    obtain ⟨a, h1, h2⟩ := h
    unfold keepF at h2
    split at h2
    · rename_i hb; cases h2; exact ⟨h1, by simp [hb]⟩
    · cases h2
  · cases h
def okF (G : Nat) (fn : Func) : Bool := match fn.body with | some c => codeOk G fn.ntmps c | none => true
def xOf : List (Nat × XF) → FuncId → XF
  | [], _ => .no
  | (i, x) :: r, g => match Nat.beq g i with | true => x | false => xOf r g
theorem xOf_ok {P : Program} : ∀ {l : List (Nat × XF)}, (∀ p ∈ l, XOk P p.1 p.2) → ∀ g, XOk P g (xOf l g)
  | [], _, g => trivial
  | (i, x) :: r, h, g => by
    simp only [xOf]
    split
    · rename_i e; rw [Nat.eq_of_beq_eq_true e]; exact h (i, x) (by simp)
    · exact xOf_ok (fun p hp => h p (by simp [hp])) g
theorem tabs_of {P : Program} {G : Nat} {l : List (Nat × XF)} (hok : P.funcs.toList.all (okF G) = true) (hx : ∀ p ∈ l, XOk P p.1 p.2) : Tabs P G (FofP P) (xOf l) where
  fn g fn h := (FofP_fn h).1
  bd g fn h := Option.isSome_iff_exists.1 (FofP_fn h).2
  ok g fn c h hb := by
    have h1 := (FofP_fn h).1
    have := List.all_eq_true.1 hok fn (by
      have := Array.mem_of_getElem? h1
      simpa using this)
    simpa [okF, hb] using this
  ext := xOf_ok hx

end
end Go.AL
