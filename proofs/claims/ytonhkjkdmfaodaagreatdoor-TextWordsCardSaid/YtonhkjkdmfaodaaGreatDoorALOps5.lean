/- Each operation of the abstract machine is the model's: make, literals, fields. -/
import Derived.Test.YtonhkjkdmfaodaaGreatDoorALOps4
set_option linter.unusedVariables false
set_option linter.unusedSimpArgs false
namespace Go.AL
open Go.RowKit

variable {P : Program} {G lo : Nat} {σ : Nat → Loc} {H H' : Heap} {n n' : Nat} {w : World}

theorem zerosL_length (z : List Value) : ∀ k, (zerosL z k).length = k * z.length
  | 0 => by simp [zerosL]
  | k + 1 => by simp [zerosL, zerosL_length z k, Nat.add_mul]; omega
theorem zerosL_get (z : List Value) : ∀ (k j : Nat), j < k * z.length → (zerosL z k)[j]? = z[j % z.length]?
  | 0, j, h => by simp at h
  | k + 1, j, h => by
    simp only [zerosL]
    rcases Nat.lt_or_ge j z.length with h1 | h1
    · rw [List.getElem?_append_left h1, Nat.mod_eq_of_lt h1]
    · rw [List.getElem?_append_right h1, zerosL_get z k _ (by rw [Nat.add_mul] at h; omega)]
      rw [Nat.mod_eq_sub_mod h1]
theorem wrap_small {l : Int} (h0 : 0 ≤ l) (h1 : l ≤ 1073741824) : IntKind.i64.wrap l = l := by
  have := IntWalk.i64_in (n := l) (by omega)
  exact this

theorem makeSlice_snd (hR : Rel G σ H n w) {t : TypeId} {l c l' c' v : Value} (hl : VR σ n l l') (hc : VR σ n c c') (h : aMakeSlice P t l c H n = some (v, H', n')) : Snd P G lo σ H n w (Instr.makeSlice t l' c') v H' n' := by
  unfold aMakeSlice at h
  split at h
  case h_2 => cases h
  rename_i k1 l k2 c
  rw [hl.int_inv, hc.int_inv]
  split at h
  case h_2 => cases h
  rename_i e he
  obtain ⟨ht, hpos⟩ := sliceElem_some he
  split at h
  case h_2 => cases h
  rename_i z hz
  split at h
  case isFalse => cases h
  rename_i hb
  obtain ⟨hl0, hlc, hcm, hby, hzl, _⟩ := hb
  cases h
  obtain ⟨inf, hin⟩ : ∃ inf, P.info? e = some inf := by
    unfold szOf at hpos
    split at hpos
    · exact ⟨_, by assumption⟩
    · omega
  have hbe : inf.bytes = bytesOf P e := by simp [bytesOf, hin]
  have hsz := fun W => run_sz (P := P) hpos W
  have hzs : z.cells.size = szOf P e := by simpa using hzl
  obtain ⟨cn, rfl⟩ := Int.eq_ofNat_of_zero_le (show 0 ≤ c by omega)
  obtain ⟨ln, rfl⟩ := Int.eq_ofNat_of_zero_le hl0
  have w1 := wrap_small (l := (ln : Int)) (by omega) (by omega)
  have w2 := wrap_small (l := (cn : Int)) (by omega) (by omega)
  have hbig : ¬ (inf.bytes : Int) * (cn : Int) > 2 ^ 48 := by
    have h1 : inf.bytes * cn ≤ 65536 * 1073741824 := Nat.mul_le_mul (by omega) (by omega)
    have : ((inf.bytes * cn : Nat) : Int) = (inf.bytes : Int) * (cn : Int) := by simp
    omega
  let l : Loc := ⟨w.heap.size, 0, cn * szOf P e, szOf P e, true, true⟩
  let arr : Array Value := (Array.range (cn * szOf P e)).map fun i => (if cn * szOf P e = 0 then #[] else z.cells)[i % (if cn * szOf P e = 0 then (#[] : Array Value) else z.cells).size]!
  have hrun : (Instr.makeSlice t (.int k1 ln) (.int k2 cn)).run P w = .ok (.slice (some ⟨w.heap.size, 0, none⟩) ln cn) (w.alloc (.cells arr e)) := by
    have hc1 : (decide ((cn : Int) < 0) || decide ((inf.bytes : Int) * (cn : Int) > 2 ^ 48) || decide ((ln : Int) < 0) || decide ((ln : Int) > (cn : Int))) = false := by
      simp only [Bool.or_eq_false_iff, decide_eq_false_iff_not]
      exact ⟨⟨⟨by omega, hbig⟩, by omega⟩, by omega⟩
    simp only [Instr.makeSlice, Sem.run_bind, run_underlying ht, Result.andThen_ok, asInt, asIntOf, Sem.run_pure, run_info hin, w1, w2, hc1, Bool.false_eq_true, if_false, run_askRoom, Int.toNat_natCast, hsz]
    by_cases h0 : cn * szOf P e = 0
    · simp only [h0, if_true, Sem.run_pure, Result.andThen_ok, newRow, Sem.run_bind, run_newObj, arr, World.alloc_eq]
    · simp only [h0, if_false, Sem.run_bind, Sem.run_pure, run_zero hz, Result.andThen_ok, newRow, run_newObj, arr, World.alloc_eq]
  refine ⟨_, _, put1 σ n l, hrun, ?_, hR.alloc (l := l) rfl ?_, Moves.alloc hR _ l _ rfl⟩
  · have := VR.sl (σ := put1 σ n l) (n := n + 1) (i := n) (o := 0) (len := ln) (ca := if (cn : Int) = 0 then 0 else 1) (cc := cn) ⟨by omega, by rw [put1_new]⟩ (by omega) (by split <;> intro; omega; contradiction) (by rw [put1_new]; intros; simp [l])
    rw [put1_new] at this
    exact this
  · have hasz : arr.size = cn * szOf P e := by simp [arr]
    refine ⟨by rw [put1_new], by rw [put1_new], by rw [put1_new], arr, by rw [put1_new]; exact heap_new w _, by rw [put1_new, hasz], ?_, fun k v hk => ?_⟩
    · rw [zerosL_length, hasz, hzl]; exact Nat.mul_le_mul_right _ (by simp; omega)
    · simp only [Int.toNat_natCast] at hk
      have hklt : k < ln * z.cells.toList.length := by have := (List.getElem?_eq_some_iff.1 hk).1; rwa [zerosL_length] at this
      rw [zerosL_get _ _ _ hklt] at hk
      rw [hzl] at hklt hk
      have hlt : k < cn * szOf P e := Nat.lt_of_lt_of_le hklt (Nat.mul_le_mul_right _ (by omega))
      have h0 : cn * szOf P e ≠ 0 := by omega
      refine ⟨v, ?_, ?_⟩
      · have hm : k % szOf P e < z.cells.size := by rw [hzs]; exact Nat.mod_lt _ hpos
        have hv : z.cells[k % szOf P e] = v := by
          have : z.cells[k % szOf P e]? = some v := by simpa using hk
          rw [Array.getElem?_eq_getElem hm] at this
          simpa using this
        simp only [arr, Array.getElem?_map, h0, if_false, hzs]
        rw [Array.getElem?_eq_getElem (by simpa using hlt)]
        simp [getElem!_pos, hm, hv]
      · obtain ⟨_, hr⟩ := (VR.rig (σ := put1 σ n l) (n := n + 1) (rigid_of_sc2 (zero_sc2 hz).1)).cells
        have hx : z.cells[k % szOf P e]? = some v := by simpa using hk
        exact hr _ _ _ hx hx

/-! ### Literals -/
theorem foldl_writeL (cs : List Value) : ∀ (arr : Array Value) (off k : Nat), ((cs.zipIdx k).foldl (fun (a : Array Value) (p : Value × Nat) => a.setIfInBounds (off + p.2) p.1) arr).toList = writeL arr.toList (off + k) cs := by
  induction cs with
  | nil => intro arr off k; rfl
  | cons c cs ih =>
    intro arr off k
    simp only [List.zipIdx_cons, List.foldl_cons, writeL]
    rw [ih, Array.toList_setIfInBounds, Nat.add_assoc]
theorem fold_write (v : Value) (arr : Array Value) (off : Nat) : (v.cells.zipIdx.foldl (fun cs (x : Value × Nat) => match x with | (c, j) => cs.setIfInBounds (off + j) c) arr) = (writeL arr.toList off v.cells.toList).toArray := by
  apply Array.ext'
  have := foldl_writeL v.cells.toList arr off 0
  rw [Nat.add_zero] at this
  rw [← Array.foldl_toList, Array.toList_zipIdx]
  exact this

theorem writeL_take (cs vs : List Value) (o : Nat) (h : o + cs.length ≤ vs.length) : writeL vs o cs = vs.take o ++ cs ++ vs.drop (o + cs.length) := by
  apply List.ext_getElem?
  intro k
  rw [writeL_get _ _ _ _ h, seg_get _ _ _ h]

theorem fill_parts {sz : Nat} : ∀ (parts : List (Nat × Value)) (k : Nat) (arr : Array Value) (cs : List Value), partsCells sz k parts = some cs → (k + parts.length) * sz = arr.size →
    Instr.fill (fun i => some (i * sz, sz)) arr parts = some (arr.toList.take (k * sz) ++ cs).toArray ∧ cs.length = parts.length * sz := by
  intro parts
  induction parts with
  | nil =>
    intro k arr cs h hs
    simp only [partsCells, Option.some.injEq] at h
    subst h
    refine ⟨?_, by simp⟩
    simp only [Instr.fill, List.append_nil]
    rw [List.take_of_length_le (by simp at hs ⊢; omega)]
  | cons p parts ih =>
    obtain ⟨i, v⟩ := p
    intro k arr cs h hs
    simp only [partsCells] at h
    split at h
    case isFalse => cases h
    rename_i hc
    obtain ⟨rfl, hl, _⟩ := hc
    split at h
    case h_2 => cases h
    rename_i r hr
    cases h
    have hvl : v.cells.size = sz := by simpa using hl
    have hfit : i * sz + sz ≤ arr.size := by
      rw [← hs, List.length_cons, show i + (parts.length + 1) = (i + 1) + parts.length by omega, Nat.add_mul, Nat.add_mul, Nat.one_mul]
      omega
    obtain ⟨h1, h2⟩ := ih (i + 1) ((writeL arr.toList (i * sz) v.cells.toList).toArray) r hr (by
      simp only [List.size_toArray, writeL_length, Array.length_toList]
      rw [← hs, List.length_cons]; congr 1; omega)
    refine ⟨?_, by rw [List.length_append, h2, hl, List.length_cons, Nat.add_mul]; omega⟩
    simp only [Instr.fill]
    rw [if_neg (by simp [hvl]; omega)]
    rw [fold_write]
    rw [h1]
    simp only [List.toList_toArray]
    rw [writeL_take _ _ _ (by simp [hvl]; omega)]
    congr 2
    have e1 : (List.take (i * sz) arr.toList ++ v.cells.toList).length = (i + 1) * sz := by
      rw [List.length_append, List.length_take, hl, Array.length_toList, Nat.add_mul]; omega
    rw [← e1, List.take_append_of_le_length (Nat.le_refl _), List.take_length, List.append_assoc]

theorem parts_rel {sz : Nat} : ∀ (ps qs : List (Nat × Value)) (k : Nat) (cs : List Value), ps.length = qs.length → (∀ (j : Nat) (p q : Nat × Value), ps[j]? = some p → qs[j]? = some q → p.1 = q.1 ∧ VR σ n p.2 q.2) → partsCells sz k ps = some cs →
    ∃ ds, partsCells sz k qs = some ds ∧ ds.length = cs.length ∧ ∀ (j : Nat) (a b : Value), cs[j]? = some a → ds[j]? = some b → VR σ n a b
  | [], [], k, cs, _, _, h => by simp only [partsCells, Option.some.injEq] at h; subst h; exact ⟨[], rfl, rfl, by simp⟩
  | [], _ :: _, k, cs, hl, _, h => by simp at hl
  | _ :: _, [], k, cs, hl, _, h => by simp at hl
  | (i, v) :: ps, (i', v') :: qs, k, cs, hl, hr, h => by
    obtain ⟨e, hv⟩ := hr 0 _ _ rfl rfl
    simp only at e hv
    subst e
    simp only [partsCells] at h
    split at h
    case isFalse => cases h
    rename_i hc
    obtain ⟨rfl, hvl, h1⟩ := hc
    split at h
    case h_2 => cases h
    rename_i r hr'
    cases h
    obtain ⟨ds, h2, h3, h4⟩ := parts_rel ps qs (i + 1) r (by simpa using hl) (fun j p q hp hq => hr (j + 1) p q (by simpa using hp) (by simpa using hq)) hr'
    obtain ⟨hsz, hcell⟩ := hv.cells
    have hl2 : v'.cells.toList.length = v.cells.toList.length := by simp [hsz]
    have h1' : v'.cells.toList.all Value.oneCell' = true := by
      rw [List.all_eq_true]
      intro y hy
      obtain ⟨j, hj, rfl⟩ := List.getElem_of_mem hy
      have hj' : j < v.cells.toList.length := by omega
      rw [(hcell j _ _ (by rw [← Array.getElem?_toList]; exact List.getElem?_eq_getElem hj') (by rw [← Array.getElem?_toList]; exact List.getElem?_eq_getElem hj)).oneCell]
      exact List.all_eq_true.1 h1 _ (List.getElem_mem _)
    refine ⟨v'.cells.toList ++ ds, by simp only [partsCells]; rw [if_pos ⟨trivial, by omega, h1'⟩, h2], by simp only [List.length_append]; omega, fun j a b ha hb => ?_⟩
    rcases Nat.lt_or_ge j v.cells.toList.length with h5 | h5
    · rw [List.getElem?_append_left h5] at ha
      rw [List.getElem?_append_left (by omega)] at hb
      exact hcell j a b (by rw [← Array.getElem?_toList]; exact ha) (by rw [← Array.getElem?_toList]; exact hb)
    · rw [List.getElem?_append_right h5] at ha
      rw [List.getElem?_append_right (by omega), hl2] at hb
      exact h4 _ a b ha hb

theorem buildSlice_snd (hR : Rel G σ H n w) {t : TypeId} {len : Nat} {ps : List (Nat × Value)} {qs : Array (Nat × Value)} {v : Value} (hl : ps.length = qs.size)
    (hr : ∀ (j : Nat) (p q : Nat × Value), ps[j]? = some p → qs[j]? = some q → p.1 = q.1 ∧ VR σ n p.2 q.2) (h : aBuildSlice P t len ps H n = some (v, H', n')) : Snd P G lo σ H n w (Instr.buildSlice t len qs) v H' n' := by
  unfold aBuildSlice at h
  split at h
  case h_2 => cases h
  rename_i e he
  obtain ⟨ht, hpos⟩ := sliceElem_some he
  split at h
  case h_2 => cases h
  rename_i cs hp
  split at h
  case isFalse => cases h
  rename_i hb
  obtain ⟨hlen, hbig, _, hz⟩ := hb
  obtain ⟨z, hz⟩ := Option.isSome_iff_exists.1 hz
  cases h
  obtain ⟨ds, hp2, hdl, hrel⟩ := parts_rel (σ := σ) (n := n) ps qs.toList 0 cs (by simpa using hl) (fun j p q h1 h2 => hr j p q h1 (by rw [← Array.getElem?_toList]; exact h2)) hp
  have hsz := fun W => run_sz (P := P) hpos W
  let zs : Array Value := if len * szOf P e = 0 then #[] else z.cells
  obtain ⟨hfill, hdl2⟩ := fill_parts qs.toList 0 ((Array.range (len * szOf P e)).map fun x => zs[x % zs.size]!) ds hp2 (by simp [← hl, hlen])
  simp only [Nat.zero_mul, List.take_zero, List.nil_append] at hfill
  have hds : ds.length = len * szOf P e := by rw [hdl2, Array.length_toList, ← hl, hlen]
  let l : Loc := ⟨w.heap.size, 0, len * szOf P e, szOf P e, true, true⟩
  have hrun : (Instr.buildSlice t len qs).run P w = .ok (.slice (some ⟨w.heap.size, 0, none⟩) len len) (w.alloc (.cells ds.toArray e)) := by
    have hnb : ¬ len * szOf P e > 2 ^ 24 := by omega
    simp only [Instr.buildSlice, Sem.run_bind, run_underlying ht, Result.andThen_ok, hsz, hnb, if_false, Sem.run_pure]
    by_cases h0 : len * szOf P e = 0
    · have hzs : zs = #[] := by simp only [zs]; rw [if_pos h0]
      rw [hzs] at hfill
      simp only [h0, if_true, pure_bind] at hfill ⊢
      rw [hfill]
      simp only [newRow, Sem.run_bind, run_newObj, Result.andThen_ok, Sem.run_pure, World.alloc_eq]
    · have hzs : zs = z.cells := by simp only [zs]; rw [if_neg h0]
      rw [hzs] at hfill
      simp only [h0, if_false, Sem.run_bind, run_zero hz, Sem.run_pure, Result.andThen_ok]
      rw [hfill]
      simp only [newRow, Sem.run_bind, run_newObj, Result.andThen_ok, Sem.run_pure, World.alloc_eq]
  refine ⟨_, _, put1 σ n l, hrun, ?_, hR.alloc (l := l) rfl ?_, Moves.alloc hR _ l _ rfl⟩
  · have := VR.sl (σ := put1 σ n l) (n := n + 1) (i := n) (o := 0) (len := len) (ca := if len = 0 then 0 else 1) (cc := len) ⟨by omega, by rw [put1_new]⟩ (by omega) (by split <;> intro; assumption; contradiction) (by rw [put1_new]; intros; simp [l])
    rw [put1_new] at this
    exact this
  · refine ⟨by rw [put1_new], by rw [put1_new], by rw [put1_new], ds.toArray, by rw [put1_new]; exact heap_new w _, by rw [put1_new]; simpa using hds, by simp; omega, fun k x hk => ?_⟩
    have hlt : k < ds.length := by have := (List.getElem?_eq_some_iff.1 hk).1; omega
    exact ⟨ds[k], by simp [List.getElem?_eq_getElem hlt], (hrel k x _ hk (List.getElem?_eq_getElem hlt)).mono (put1_same σ n l) (by omega)⟩

end Go.AL
