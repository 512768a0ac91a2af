/- From a row's world to the abstract machine's heap, and back from a run to what a row asks. -/
import Derived.Test.YtonhkjkdmfaodaaGreatDoorALStage2
import Derived.Lib.LaidTab
import Derived.OpenShut
import Derived.RowKit3
import Derived.ChangeSame
set_option linter.unusedVariables false
set_option linter.unusedSimpArgs false
namespace Go.AL
open Go.RowKit Go.ChangeShapes Go.WideShapes
noncomputable section

/-- One listed variable's reading. -/
def Reads (P : Program) (w : World) (n : String) (d : DataW Unit) : Prop :=
  ∃ g t cs fuel p, P.globalNamed n = some g ∧ (P.globals[g]?).map (·.type) = some t ∧ w.var? P n = some cs ∧ DataW.trod (fun _ => ()) P w 0 (fun _ => true) false fuel t cs.toList = some (d, p)
theorem laidVars_reads {P : Program} {w : World} : ∀ {l : List (String × DataW Unit)} {ps : List MemPlace}, DataW.LaidVars P w l ps → ∀ n d, (n, d) ∈ l → Reads P w n d
  | [], _, _, _, _, hm => by cases hm
  | (n', d') :: r, ps, h, n, d, hm => by
    obtain ⟨g, t, cs, fuel, p, q, h1, h2, h3, h4, h5, _⟩ := h
    rcases List.mem_cons.1 hm with e | e
    · cases e
      exact ⟨g, t, cs, fuel, p, h1, h2, h3, h4⟩
    · exact laidVars_reads h5 n d e
theorem reads_of {P : Program} {w : World} {l : List (String × DataW Unit)} (h : laidMet P l w) {n : String} {d : DataW Unit} (hm : (n, d) ∈ l) : Reads P w n d :=
  let ⟨_, hv, _⟩ := h
  laidVars_reads hv n d hm

/-- The plain values of a row of data. -/
def plainVals : List (DataW Unit) → Option (List Value)
  | [] => some []
  | .lit (.int k n) :: r => (match plainVals r with | some vs => some (.int k n :: vs) | none => none)
  | .lit (.string b) :: r => (match plainVals r with | some vs => some (.string ⟨⟨b⟩⟩ :: vs) | none => none)
  | _ => none
def plainAgg : DataW Unit → Option (List Value)
  | .agg l => plainVals l
  | _ => none

theorem plainVals_at : ∀ {l : List (DataW Unit)} {vs : List Value}, plainVals l = some vs → ∀ (i : Nat) (v : Value), vs[i]? = some v →
    (∃ k n, v = .int k n ∧ l[i]? = some (.lit (.int k n))) ∨ (∃ b, v = .string ⟨⟨b⟩⟩ ∧ l[i]? = some (.lit (.string b)))
  | [], vs, h, i, v, hv => by cases h; simp at hv
  | d :: r, vs, h, i, v, hv => by
    unfold plainVals at h
    split at h
    · rename_i e; cases e
    · rename_i k n r' e
      cases e
      split at h
      case h_2 => cases h
      rename_i vs' hr
      cases h
      cases i with
      | zero => simp at hv; subst hv; exact .inl ⟨k, n, rfl, rfl⟩
      | succ i => simpa using plainVals_at hr i v (by simpa using hv)
    · rename_i b r' e
      cases e
      split at h
      case h_2 => cases h
      rename_i vs' hr
      cases h
      cases i with
      | zero => simp at hv; subst hv; exact .inr ⟨b, rfl, rfl⟩
      | succ i => simpa using plainVals_at hr i v (by simpa using hv)
    · cases h

/-- A table of whole numbers, or of texts: what its cells are. -/
theorem cells_plain {P : Program} {w : World} {n : String} {g : Nat} {t e : TypeId} {k : Nat} {d : DataW Unit} {vs : List Value} (h : Reads P w n d) (hd : plainAgg d = some vs) (hg : P.globalNamed n = some g)
    (hty : (P.globals[g]?).map (·.type) = some t) (ht : P.underlying t = some (.array k e)) (he : (∃ kk, P.underlying e = some (.int kk)) ∨ P.underlying e = some .string) (hc : P.cellsOf e = 1) :
    (∀ (i : Nat) (v : Value), vs[i]? = some v → w.cell? ⟨g, i, none⟩ = some v) ∧ (∀ v ∈ vs, rigid v = true) := by
  obtain ⟨g', t', cs, fuel, p, h1, h2, h3, h4⟩ := h
  rw [hg] at h1; cases h1
  rw [hty] at h2; cases h2
  obtain ⟨xs, m, rfl, hx, hl, hxl, hall⟩ := DataW.trod_array ht h4
  cases hx
  simp only [plainAgg] at hd
  constructor
  · intro i v hv
    rw [World.var?_cell hg h3 i]
    have hi : i < (xs.map (·.1)).length := by
      rcases plainVals_at hd i v hv with ⟨_, _, _, h⟩ | ⟨_, _, h⟩
      · exact (List.getElem?_eq_some_iff.1 h).1
      · exact (List.getElem?_eq_some_iff.1 h).1
    simp only [List.length_map] at hi
    have hx := hall i (by omega)
    rw [List.getElem?_eq_getElem hi] at hx
    rw [hc, Nat.mul_one] at hx
    rcases plainVals_at hd i v hv with ⟨kk, z, rfl, hz⟩ | ⟨b, rfl, hz⟩
    · rw [List.getElem?_map, List.getElem?_eq_getElem hi] at hz
      simp only [Option.map_some, Option.some.injEq] at hz
      rcases he with ⟨k', he⟩ | he
      · obtain ⟨z', hcs, hxx, _⟩ := DataW.trod_int he hx
        rw [hxx] at hz
        simp only [DataW.lit.injEq, Lit.int.injEq] at hz
        obtain ⟨rfl, rfl⟩ := hz
        have := congrArg (·[0]?) hcs
        simpa [List.getElem?_take, List.getElem?_drop] using this
      · obtain ⟨s, hcs, hxx, _⟩ := DataW.trod_string he hx
        rw [hxx] at hz
        simp at hz
    · rw [List.getElem?_map, List.getElem?_eq_getElem hi] at hz
      simp only [Option.map_some, Option.some.injEq] at hz
      rcases he with ⟨k', he⟩ | he
      · obtain ⟨z', hcs, hxx, _⟩ := DataW.trod_int he hx
        rw [hxx] at hz
        simp at hz
      · obtain ⟨s, hcs, hxx, _⟩ := DataW.trod_string he hx
        rw [hxx] at hz
        simp only [DataW.lit.injEq, Lit.string.injEq] at hz
        subst hz
        have := congrArg (·[0]?) hcs
        simpa [List.getElem?_take, List.getElem?_drop] using this
  · intro v hv
    obtain ⟨i, hi⟩ := List.mem_iff_getElem?.1 hv
    rcases plainVals_at hd i v hi with ⟨_, _, rfl, _⟩ | ⟨_, rfl, _⟩ <;> rfl

/-- The heap that the tables give. -/
def gHeap : List (Nat × List Value) → Heap
  | [] => ⟨.nil, []⟩
  | (i, vs) :: r => (gHeap r).upd i (some (.ro vs))
theorem gHeap_hid : ∀ l, (gHeap l).hid = []
  | [] => rfl
  | (i, vs) :: r => gHeap_hid r
theorem gHeap_get : ∀ (l : List (Nat × List Value)) (i : Nat) (b : Blk), (gHeap l).get i = some b → ∃ vs, (i, vs) ∈ l ∧ b = .ro vs
  | [], i, b, h => by simp [gHeap, Heap.get, inRange, Tree.get_nil] at h
  | (j, vs) :: r, i, b, h => by
    rw [gHeap, Heap.get_upd0 (gHeap_hid r)] at h
    split at h
    · rename_i e
      cases h
      exact ⟨vs, by simp [e], rfl⟩
    · obtain ⟨vs', h1, h2⟩ := gHeap_get r i b h
      exact ⟨vs', by simp [h1], h2⟩

def σ0 : Nat → Loc := fun i => ⟨i, 0, 0, 0, false, true⟩

/-- What the tables are in a world. -/
def TabsIn (G : Nat) (W : World) (l : List (Nat × List Value)) : Prop :=
  ∀ p ∈ l, p.1 < G ∧ p.1 < W.heap.size ∧ (∀ v ∈ p.2, rigid v = true) ∧ ∀ (k : Nat) (v : Value), p.2[k]? = some v → W.cell? ⟨p.1, k, none⟩ = some v

theorem rel_init {G : Nat} {W : World} {l : List (Nat × List Value)} (h : TabsIn G W l) : Rel G σ0 (gHeap l) G W where
  dom i b hb := by obtain ⟨vs, hm, rfl⟩ := gHeap_get l i b hb; exact (h _ hm).1
  blk i b hb := by
    obtain ⟨vs, hm, rfl⟩ := gHeap_get l i b hb
    obtain ⟨h1, h2, h3, h4⟩ := h _ hm
    refine ⟨rfl, h2, fun k v hv => ⟨v, ?_, .rig (h3 v (List.mem_of_getElem? hv))⟩⟩
    have := h4 k v hv
    simpa [σ0] using this
  inj i j b c hb hc hw hij := by
    obtain ⟨vs, hm, rfl⟩ := gHeap_get l i b hb
    cases hw
  glob g hg := ⟨⟨hg, rfl⟩, rfl, rfl⟩
theorem gHeap_dom {G : Nat} {l : List (Nat × List Value)} (h : ∀ p ∈ l, p.1 < G) : Dom (gHeap l) G := fun i b hb => by
  obtain ⟨vs, hm, rfl⟩ := gHeap_get l i b hb; exact h _ hm

/-- What was there stays. -/
structure Stays (W W' : World) : Prop where
  os : W'.os = W.os
  output : W'.output = W.output
  size : W.heap.size ≤ W'.heap.size
  keep : ∀ b, b < W.heap.size → W'.heap[b]? = W.heap[b]?

theorem Moves.stays {G : Nat} {l : List (Nat × List Value)} {W W' : World} {σ' : Nat → Loc} {H' : Heap} {lo n' : Nat} (h : Moves lo σ0 (gHeap l) G W σ' H' n' W') : Stays W W' where
  os := h.os
  output := h.output
  size := h.size
  keep b hb := h.keep b hb fun j c _ hj hc => by
    obtain ⟨vs, hm, rfl⟩ := gHeap_get l j c hj
    cases hc

theorem Stays.keptBut {W W' : World} (h : Stays W W') (may : MemPlace → Prop) : W.keptBut W' may := by
  refine ⟨h.os, h.output, fun i hi => ?_⟩
  rw [h.keep i hi]
  have : W.heap[i]? = some W.heap[i] := by simp [hi]
  rw [this]
  cases W.heap[i] with
  | cells c t fr => exact ⟨rfl, rfl, rfl, fun _ _ => rfl⟩
  | map es clock => exact .inr ⟨rfl, rfl⟩
  | _ => rfl
theorem Stays.frozen {W W' : World} (h : Stays W W') (a : Addr) (ha : a.block < W.heap.size) : W'.frozen? a = W.frozen? a := by
  simp only [World.frozen?, h.keep a.block ha]

/-- A run of the abstract machine with plain arguments that ends with a plain value: what the model does. -/
theorem calls_plain {P : Program} {G lo : Nat} {f : FuncId} {args : Array Value} {l : List (Nat × List Value)} {W : World} {v : Value} {K : Value → Heap → Nat → Prop} (hN : NoGor P) (hfol : P.follows .mixedOrders = true)
    (ha : args.toList.all rigid = true) (ht : TabsIn G W l) (h : RCall P G (fun _ _ _ _ _ _ => False) lo f args (gHeap l) G K) (hK : ∀ v' H' n', K v' H' n' → v' = v) (hv : rigid v = true) :
    Calls P f args W fun e W' => e = .returned v ∧ Stays W W' := by
  have hs := RCall.sound hN hfol (fun _ _ _ _ _ _ h => h.elim) h
  refine (hs σ0 W args (rel_init ht) ⟨rfl, fun k x y hx hy => ?_⟩).mono ?_
  · rw [hx] at hy
    cases hy
    exact .rig (List.all_eq_true.1 ha x (by
      have := Array.mem_of_getElem? hx
      simpa using this))
  · rintro e W' ⟨v1, v2, H', n', σ', rfl, hk, hvr, _, hm⟩
    have := hK _ _ _ hk
    subst this
    rw [← rigid_eq hv hvr]
    exact ⟨rfl, hm.stays⟩

/-- One table of a row's list. -/
theorem entry_in {P : Program} {G : Nat} {W : World} {n : String} {g : Nat} {t e : TypeId} {k : Nat} {d : DataW Unit} {vs : List Value} (h : Reads P W n d) (hd : plainAgg d = some vs) (hne : vs.isEmpty = false) (hg : P.globalNamed n = some g)
    (hty : (P.globals[g]?).map (·.type) = some t) (ht : P.underlying t = some (.array k e)) (he : (∃ kk, P.underlying e = some (.int kk)) ∨ P.underlying e = some .string) (hc : P.cellsOf e = 1) (hG : g < G) :
    g < G ∧ g < W.heap.size ∧ (∀ v ∈ vs, rigid v = true) ∧ ∀ (k : Nat) (v : Value), vs[k]? = some v → W.cell? ⟨g, k, none⟩ = some v := by
  obtain ⟨h1, h2⟩ := cells_plain h hd hg hty ht he hc
  refine ⟨hG, ?_, h2, h1⟩
  cases vs with
  | nil => cases hne
  | cons v r =>
    have := h1 0 v rfl
    rcases Nat.lt_or_ge g W.heap.size with h3 | h3
    · exact h3
    · have hz : W.heap[g]? = none := by simp [h3]
      simp [World.cell?, hz] at this
theorem noGor_of {P : Program} (h : (P.funcs.toList.all fun fn => !(fn.name == "runtime.NumGoroutine")) = true) : NoGor P := fun g fn hf => by
  have := List.all_eq_true.1 h fn (by
    have := Array.mem_of_getElem? hf
    simpa using this)
  simpa using this
/-- All plain parts of a datum, in order. -/
def flatD : Nat → DataW Unit → List Value
  | _, .lit (.int k n) => [.int k n]
  | _, .lit (.string b) => [.string ⟨⟨b⟩⟩]
  | f + 1, .agg l => l.flatMap (flatD f)
  | _, _ => []
def layG (P : Program) : List (Nat × DataW Unit) → World → World
  | [], w => w
  | (g, d) :: r, w => layG P r { w with heap := w.heap.modify g fun
      | .cells _ t frozen => .cells (flatD 3 d).toArray t frozen
      | o => o }
/-- A closed run. -/
def okRun (n : Nat) (x : Option R) : Bool := match x with
  | some r => (match r.v with | .bool true => Nat.ble n r.m | _ => false)
  | none => false
theorem calls_run {P : Program} {G : Nat} {X : FuncId → XF} {f : FuncId} {args : Array Value} {l : List (Nat × List Value)} {W : World} {k : Nat} (T : Tabs P G (FofP P) X) (hN : NoGor P) (hfol : P.follows .mixedOrders = true)
    (ha : args.toList.all rigid = true) (ht : TabsIn G W l) (h : okRun G (evalS P G (FofP P) X k (.call f args) (gHeap l) G G) = true) :
    Calls P f args W fun e W' => e = .returned (.bool true) ∧ Stays W W' := by
  cases he : evalS P G (FofP P) X k (.call f args) (gHeap l) G G with
  | none => rw [he] at h; cases h
  | some r =>
    rw [he] at h
    simp only [okRun] at h
    have hv : r.v = .bool true ∧ G ≤ r.m := by
      split at h
      · rename_i e; exact ⟨e, Nat.le_of_ble_eq_true h⟩
      · cases h
    have hr := evalS_call (Giv := fun _ _ _ _ _ _ => False) T (gHeap_dom fun p hp => (ht p hp).1) (gHeap_hid l) (Nat.le_refl _) he hv.2
    exact calls_plain hN hfol ha ht hr (fun v' H' n' hk => hk.1.trans hv.1) rfl

/-- What a row asks of a call that leaves all as it was. -/
theorem post_stays {H : Type} {enc : TypeId × Value → H} {P : Program} {f : Func} {s : ChangeSpec} {apart fresh handsOn again : Bool} {W W' : World} {args : Array Value} {v : Value} {ds gs : List (DataW H)} {before pa pv : List MemPlace}
    (hW : DataW.Whole enc P f.params.toList s.vars apart W args.toList ds gs before)
    (hres : ∀ (b : Nat) (sp : Nat → Bool) (hd : Bool), DataW.TrodAll enc P W' b sp hd f.resultTypes.toList (v.resultList f.resultTypes.size) (s.fn H (ds ++ gs)).results [])
    (hargs : ∀ sp : Nat → Bool, (∀ p ∈ before, sp p.block = true) → DataW.TrodAll enc P W' 0 sp true f.params.toList args.toList (s.fn H (ds ++ gs)).args pa)
    (hvars : ∀ sp : Nat → Bool, (∀ p ∈ before, sp p.block = true) → DataW.TrodVars enc P W' sp s.vars (s.fn H (ds ++ gs)).vars pv)
    (hps : before = pa ++ pv) (hk : Stays W W')
    (hok : ∀ (j : Nat) (t : TypeId) (r : Value), f.resultTypes[j]? = some t → (v.resultList f.resultTypes.size)[j]? = some r → Value.okWide P W' .any 0 t r) :
    s.post enc P f apart fresh handsOn again W args v W' := by
  have hold : ∀ p ∈ before, (fun b => decide (b < W.heap.size)) p.block = true := fun p hp => by simpa using hW.lt p hp
  have hlt := hW.lt
  refine ⟨ds, gs, before, [], pa, pv, hW, hres _ _ _, hargs _ hold, hvars _ hold, hk.keptBut _, fun _ => ?_⟩
  obtain ⟨_, _, _, _, _, hz, hn⟩ := hW
  refine ⟨hok, _, _, ([] ++ pa) ++ pv, ⟨[] ++ pa, pv, trodAll_append (hargs _ (fun _ _ => rfl)) (hres _ _ _), hvars _ (fun _ _ => rfl), rfl, ?_, ?_⟩, ?_⟩
  · intro b off hp
    have hp' : MemPlace.cell b off ∈ before := by rw [hps]; simpa using hp
    rw [hk.frozen _ (hlt _ hp')]
    exact hz b off hp'
  · intro ha
    have := hn ha
    rw [hps] at this
    simpa using this
  · intro p hp _
    rw [hps]
    simpa using hp

end
end Go.AL
