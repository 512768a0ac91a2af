/- Each operation of the abstract machine is the model's: append. -/
import Derived.Test.YtonhkjkdmfaodaaGreatDoorALOps3
set_option linter.unusedVariables false
set_option linter.unusedSimpArgs false
namespace Go.AL
open Go.RowKit

variable {P : Program} {G lo : Nat} {σ : Nat → Loc} {H H' : Heap} {n n' : Nat} {w : World}

theorem growBy_le (newLen : Nat) : ∀ (r c : Nat), c < newLen → Builtin.growBy newLen r c ≤ 2 * newLen + 768
  | 0, c, h => by simp [Builtin.growBy]; omega
  | r + 1, c, h => by
    unfold Builtin.growBy
    split
    · omega
    · rcases Nat.lt_or_ge (c + (c + 768) / 4) newLen with h1 | h1
      · exact growBy_le newLen r _ h1
      · have : ∀ r, Builtin.growBy newLen r (c + (c + 768) / 4) = c + (c + 768) / 4 := by
          intro r
          cases r with
          | zero => rfl
          | succ r => simp [Builtin.growBy, h1]
        rw [this]
        omega
theorem nextcap_le (need c : Nat) (h : c < need) : Builtin.nextslicecap need c ≤ 2 * need + 768 := by
  unfold Builtin.nextslicecap
  split
  · omega
  · split
    · omega
    · exact growBy_le need 4 c h

theorem lenOf_run {x : Value} {m : Nat} (h : (∃ a c, x = .slice a m c) ∨ ∃ s, x = .string s ∧ s.size = m) (w : World) : (Builtin.lenOf x).run P w = .ok m w := by
  rcases h with ⟨a, c, rfl⟩ | ⟨s, rfl, rfl⟩ <;> simp [Builtin.lenOf]

theorem elems_snd (hR : Rel G σ H n w) {e : TypeId} {x x' : Value} {m : Nat} {cs : List Value} (hx : VR σ n x x') (h : elemsOf P e x H = some (m, cs)) :
    cs.length = m * szOf P e := by
  unfold elemsOf at h
  split at h
  · cases h; simp
  · split at h
    · rename_i hr
      cases h
      exact (read_snd hR hr).2.1
    · cases h
  · split at h
    · rename_i hs; cases h; rw [hs]; simp
    · cases h
  · cases h

theorem elems_run (hR : Rel G σ H n w) {e : TypeId} {x x' : Value} {m : Nat} {cs : List Value} (hx : VR σ n x x') (h : elemsOf P e x H = some (m, cs)) :
    (Builtin.lenOf x').run P w = .ok m w ∧ ∃ ds : List Value, ds.length = cs.length ∧ (∀ (j : Nat) (a b : Value), cs[j]? = some a → ds[j]? = some b → VR σ n a b) ∧
      (∀ W : World, (∀ a, W.cell? a = w.cell? a) → (Builtin.firstCells (szOf P e) m x').run P W = .ok ds.toArray W) := by
  unfold elemsOf at h
  split at h
  · rename_i m' c
    obtain ⟨q1, q2, rfl⟩ := hx.nil_inv
    cases h
    exact ⟨by simp [Builtin.lenOf], [], rfl, by simp, fun W _ => by simp [Builtin.firstCells]⟩
  · rename_i i o m' c
    split at h
    · rename_i r hr
      cases h
      obtain ⟨hi, a, cc, rfl, hs, _, _, _, hA⟩ := hx.sl_inv
      obtain ⟨_, hl, ds, hdl, hrel, hc⟩ := read_snd hR hr
      refine ⟨by simp [Builtin.lenOf], ds, by omega, hrel, fun W hW => ?_⟩
      rcases hA with rfl | ⟨rfl, _⟩
      · have := run_loadCells_list (P := P) W _ ds (fun j v hj => by rw [hW]; exact hc j v hj)
        rw [hdl] at this
        simpa [Builtin.firstCells] using this
      · have : ds = [] := by rw [Nat.zero_mul] at hdl; exact List.eq_nil_of_length_eq_zero hdl
        subst this
        simp [Builtin.firstCells, loadCells, loadCellsFrom]
    · cases h
  · rename_i s
    split at h
    case isFalse => cases h
    cases h
    rw [hx.str_inv]
    refine ⟨by simp [Builtin.lenOf], _, rfl, fun j a b ha hb => ?_, fun W _ => ?_⟩
    · rw [ha] at hb
      cases hb
      simp only [List.getElem?_map, Option.map_eq_some_iff] at ha
      obtain ⟨c, _, rfl⟩ := ha
      exact .rig rfl
    · simp [Builtin.firstCells]
      apply Array.ext'
      simp
  · cases h

theorem Moves.adopt {G lo : Nat} {σ : Nat → Loc} {H : Heap} {n : Nat} {w w' : World} (hR : Rel G σ H n w) {i : Nat} {l : Loc} {b c : Blk} (hl : lo ≤ i) (hi : H.get i = some b) (hwr : b.wr = true) (hb : l.blk = (σ i).blk) (ho : w'.os = w.os) (ht : w'.tape = w.tape) (hu : w'.output = w.output)
    (hz : w.heap.size ≤ w'.heap.size) (hk : ∀ k, k ≠ (σ i).blk → w'.heap[k]? = w.heap[k]?) : Moves lo σ H n w (put1 σ n l) ((H.upd i none).upd n (some c)) (n + 1) w' where
  same := put1_same σ n l
  le := Nat.le_succ n
  bnd j d h := by
    rcases Heap.get_upd_some h with ⟨rfl, _⟩ | ⟨_, h⟩
    · omega
    · rcases Heap.get_upd_some h with ⟨_, e⟩ | ⟨_, h⟩
      · cases e
      · have := hR.dom j d h; omega
  dom j d hj h := by
    rcases Heap.get_upd_some h with ⟨rfl, _⟩ | ⟨_, h⟩
    · omega
    · rcases Heap.get_upd_some h with ⟨_, e⟩ | ⟨_, h⟩
      · cases e
      · exact ⟨d, h, rfl⟩
  frame j h1 h2 := by rw [Heap.get_upd_ne _ _ (by omega), Heap.get_upd_ne _ _ (by omega)]
  fresh j h1 h2 := by
    have : j = n := by omega
    subst this
    rw [put1_new]
    exact .inr ⟨i, b, hl, hi, hwr, hb⟩
  os := ho
  tape := ht
  output := hu
  size := hz
  keep c hb' hj := hk c (fun e => hj i b hl hi hwr e.symm)

theorem zeroCells_size (z : Array Value) (k : Nat) : (Builtin.zeroCells z k).size = k * z.size := by simp [Builtin.zeroCells]

theorem VR.ptrs {l : Loc} {len cc : Nat} (h : len ≤ cc) (hok : l.ok = true) (hoff : l.off = 0) (hsz : cc * l.es ≤ l.size) : VR (put1 σ n l) (n + 1) (.slice (some ⟨n, 0, none⟩) len 1) (.slice (some ⟨l.blk, 0, none⟩) len cc) := by
  have := VR.sl (σ := put1 σ n l) (n := n + 1) (i := n) (o := 0) (len := len) (ca := 1) (cc := cc) ⟨by omega, by rw [put1_new]; exact hok⟩ h (by simp) (by rw [put1_new, hoff]; intros; omega)
  rw [put1_new, hoff] at this
  exact this

/-- A new row of old cells and new ones. -/
theorem newRow_snd (hR : Rel G σ H n w) {e : TypeId} {z : Value} {vs us cs ds : List Value} {len m cap : Nat} (hpos : 0 < szOf P e) (hz : zeroOf P e = some z) (hzl : z.cells.toList.length = szOf P e) (hv : vs.length = len * szOf P e)
    (hu : us.length = vs.length) (hru : ∀ (j : Nat) (a b : Value), vs[j]? = some a → us[j]? = some b → VR σ n a b) (hc : cs.length = m * szOf P e) (hd : ds.length = cs.length)
    (hrd : ∀ (j : Nat) (a b : Value), cs[j]? = some a → ds[j]? = some b → VR σ n a b) (hcap : len + m ≤ cap) :
    ∃ l : Loc, l.blk = w.heap.size ∧ VR (put1 σ n l) (n + 1) (.slice (some ⟨n, 0, none⟩) (len + m) 1) (.slice (some ⟨w.heap.size, 0, none⟩) (len + m) cap) ∧
      Rel G (put1 σ n l) (H.upd n (some (.cells (vs ++ cs) e (szOf P e)))) (n + 1) (w.alloc (.cells (us.toArray ++ ds.toArray ++ Builtin.zeroCells z.cells (cap - (len + m))) e)) := by
  let l : Loc := ⟨w.heap.size, 0, cap * szOf P e, szOf P e, true, true⟩
  have hsz : (us.toArray ++ ds.toArray ++ Builtin.zeroCells z.cells (cap - (len + m))).size = cap * szOf P e := by
    have hzs : z.cells.size = szOf P e := by simpa using hzl
    simp only [Array.size_append, List.size_toArray, zeroCells_size, hzs, hu, hd, hv, hc]
    rw [← Nat.add_mul, ← Nat.add_mul]
    congr 1; omega
  refine ⟨l, rfl, VR.ptrs (l := l) hcap rfl rfl (Nat.le_refl _), hR.alloc (l := l) rfl ⟨by rw [put1_new], by rw [put1_new], by rw [put1_new], _, by rw [put1_new]; exact heap_new w _, by rw [put1_new, hsz], ?_, fun k v hk => ?_⟩⟩
  · rw [hsz]; simp only [List.length_append, hv, hc, ← Nat.add_mul]; exact Nat.mul_le_mul_right _ hcap
  · have hlt : k < vs.length + cs.length := by have := (List.getElem?_eq_some_iff.1 hk).1; simpa using this
    have hmv : ∀ {a b : Value}, VR σ n a b → VR (put1 σ n l) (n + 1) a b := fun h => h.mono (put1_same σ n l) (by omega)
    rw [Array.getElem?_append_left (by simp; omega)]
    rcases Nat.lt_or_ge k vs.length with h1 | h1
    · rw [List.getElem?_append_left h1] at hk
      rw [Array.getElem?_append_left (by simp; omega)]
      have : k < us.length := by omega
      exact ⟨us[k], by simp [List.getElem?_eq_getElem this], hmv (hru k v _ hk (List.getElem?_eq_getElem this))⟩
    · rw [List.getElem?_append_right h1] at hk
      rw [Array.getElem?_append_right (by simp; omega)]
      have : k - us.length < ds.length := by omega
      refine ⟨ds[k - us.length], by simp [List.getElem?_eq_getElem this], hmv (hrd (k - vs.length) v _ hk ?_)⟩
      rw [show k - vs.length = k - us.length by omega]
      exact List.getElem?_eq_getElem this

/-- The new elements stand in the spare cells: the row has a new number, its elder one is gone. -/
theorem inPlace_snd (hR : Rel G σ H n w) {i len m cc : Nat} {vs cs ds : List Value} {t : TypeId} (hg : H.get i = some (.cells vs t (szOf P t))) (hlo : lo ≤ i) (hfit : len * szOf P t ≤ vs.length) (hpos : 0 < szOf P t)
    (hcl : cs.length = m * szOf P t) (hdl : ds.length = cs.length) (hrel : ∀ (j : Nat) (a b : Value), cs[j]? = some a → ds[j]? = some b → VR σ n a b) (h1d : ∀ y ∈ ds, y.oneCell' = true) (hin' : len + m ≤ cc)
    (hroom : 0 + 0 + cc * szOf P t ≤ (σ i).size) :
    ∃ w' σ', (storeCells ⟨(σ i).blk, len * szOf P t, none⟩ ds).run P w = .ok () w' ∧ VR σ' (n + 1) (.slice (some ⟨n, 0, none⟩) (len + m) 1) (.slice (some ⟨(σ i).blk, 0, none⟩) (len + m) cc) ∧
      Rel G σ' ((H.upd i none).upd n (some (.cells (vs.take (len * szOf P t) ++ cs) t (szOf P t)))) (n + 1) w' ∧ Moves lo σ H n w σ' ((H.upd i none).upd n (some (.cells (vs.take (len * szOf P t) ++ cs) t (szOf P t)))) (n + 1) w' := by
  obtain ⟨q0, qw, qe, ces, qh, qs, qv, qc⟩ := hR.blk i _ hg
  have hi := hR.dom i _ hg
  have hbound : (len + m) * szOf P t ≤ ces.size := by
    have := Nat.mul_le_mul_right (szOf P t) hin'
    omega
  rw [Nat.add_mul] at hbound
  have hvtl : (vs.take (len * szOf P t)).length = len * szOf P t := by simp; omega
  let l : Loc := ⟨(σ i).blk, 0, (σ i).size, szOf P t, true, true⟩
  have hst := run_storeCells_at P (σ i).blk (len * szOf P t) t ds 0 ces w qh (by simp; omega) h1d
  simp only [Nat.add_zero] at hst
  refine ⟨_, put1 σ n l, hst, VR.ptrs (l := l) hin' rfl rfl (by simpa using hroom), ?_, ?_⟩
  · refine (hR.kill i).put (l := l) (by simp [World.setRow]) (fun j c hj => ?_) (fun j c hj => ?_) ?_
    · rw [Heap.get_upd] at hj
      split at hj
      · cases hj
      · split at hj
        · cases hj
        · rename_i hji
          exact fun e => hR.inj i j _ c hg hj rfl (Ne.symm hji) e.symm
    · rw [Heap.get_upd] at hj
      split at hj
      · cases hj
      · split at hj
        · cases hj
        · rename_i hji
          exact heap_setRow_ne w _ _ _ (fun e => hR.inj i j _ c hg hj rfl (Ne.symm hji) e.symm)
    · refine ⟨by rw [put1_new], by rw [put1_new], by rw [put1_new], _, by rw [put1_new]; exact setRow_heap w _ ces _ t _ qh, ?_, ?_, fun k v hk => ?_⟩
      · rw [put1_new]; show _ = (σ i).size; simp; omega
      · simp; omega
      · have hmv : ∀ {a b : Value}, VR σ n a b → VR (put1 σ n l) (n + 1) a b := fun h => h.mono (put1_same σ n l) (by omega)
        simp only [List.getElem?_toArray]
        rw [seg_get _ _ _ (by simp; omega)]
        have hlt : k < (vs.take (len * szOf P t)).length + cs.length := by have := (List.getElem?_eq_some_iff.1 hk).1; simpa using this
        rw [hvtl] at hlt
        rcases Nat.lt_or_ge k (len * szOf P t) with h4 | h4
        · rw [if_neg (by omega)]
          rw [List.getElem?_append_left (by omega), List.getElem?_take_of_lt h4] at hk
          obtain ⟨c, h2, h3⟩ := qc k v hk
          exact ⟨c, by simpa using h2, hmv h3⟩
        · rw [if_pos ⟨h4, by omega⟩]
          rw [List.getElem?_append_right (by omega), hvtl] at hk
          have : k - len * szOf P t < ds.length := by omega
          exact ⟨_, List.getElem?_eq_getElem this, hmv (hrel _ v _ hk (List.getElem?_eq_getElem this))⟩
  · exact Moves.adopt hR (l := l) hlo hg rfl rfl rfl rfl rfl (by simp [World.setRow]) (fun k hk => heap_setRow_ne w _ k _ hk)

set_option maxHeartbeats 400000 in
theorem append_snd (hR : Rel G σ H n w) {t u : TypeId} {ty : TypeId} {s s' x x' v : Value} (hs : VR σ n s s') (hx : VR σ n x x') (hu : ∃ d, P.underlying u = some d ∧ ∀ k, d ≠ .int k)
    (h : aAppend P lo t s x H n = some (v, H', n')) : Snd P G lo σ H n w (Builtin.append_ #[t, u] ty #[s', x']) v H' n' := by
  obtain ⟨d, hu, hd⟩ := hu
  unfold aAppend at h
  split at h
  case h_2 => cases h
  rename_i a len c
  split at h
  case h_2 => cases h
  rename_i e he
  obtain ⟨ht, hpos⟩ := sliceElem_some he
  split at h
  case h_2 => cases h
  rename_i m cs hel
  split at h
  case isTrue => cases h
  rename_i hcond
  simp only [not_or, ne_eq, Decidable.not_not, Bool.not_eq_false, Nat.not_lt] at hcond
  obtain ⟨hb0, hb1, hlm, hzz, h1⟩ := hcond
  obtain ⟨z, hz, hzl⟩ := Option.map_eq_some_iff.1 hzz
  have hcl := elems_snd hR hx hel
  obtain ⟨hlen, ds, hdl, hrel, hfirst⟩ := elems_run hR hx hel
  have hnotint : (d matches .int _) = false := by cases d <;> first | rfl | exact absurd rfl (hd _)
  have hsz := fun W => run_sz (P := P) hpos W
  obtain ⟨inf, hin⟩ : ∃ inf, P.info? e = some inf := by
    unfold szOf at hpos
    split at hpos
    · exact ⟨_, by assumption⟩
    · omega
  have hby : inf.bytes = bytesOf P e := by simp [bytesOf, hin]
  have h1d : ∀ y ∈ ds, y.oneCell' = true := by
    intro y hy
    obtain ⟨j, hj, rfl⟩ := List.getElem_of_mem hy
    have hj' : j < cs.length := by omega
    rw [(hrel j _ _ (List.getElem?_eq_getElem hj') (List.getElem?_eq_getElem hj)).oneCell]
    exact List.all_eq_true.1 h1 _ (List.getElem_mem _)
  -- nothing is appended
  by_cases hm : m = 0
  · rw [if_pos hm] at h
    cases h
    subst hm
    have form : ∃ b k, s' = .slice b len k ∧ len ≤ k := by
      cases a with
      | none => obtain ⟨rfl, rfl, rfl⟩ := hs.nil_inv; exact ⟨none, 0, rfl, Nat.le_refl _⟩
      | some a =>
        obtain ⟨i, o, sp⟩ := a
        cases sp with
        | some sp => cases hs with
          | rig h => simp [rigid, sc2, sc1, sc0] at h
        | none => obtain ⟨_, a', cc, rfl, _, hle, _⟩ := hs.sl_inv; exact ⟨_, _, rfl, hle⟩
    obtain ⟨b, k, rfl, hle⟩ := form
    have hds : ds = [] := by rw [Nat.zero_mul] at hcl; exact List.eq_nil_of_length_eq_zero (by omega)
    subst hds
    have hf := hfirst w (fun _ => rfl)
    refine ⟨.slice b len k, w, σ, ?_, hs, hR, Moves.refl hR⟩
    simp only [Builtin.append_, List.getElem?_toArray, List.getElem?_cons_zero, List.getElem?_cons_succ, Sem.run_bind, run_underlying ht, run_underlying hu, hsz, Result.andThen_ok, hnotint, Bool.false_eq_true, if_false, hlen,
      Sem.run_pure, Nat.add_zero, hle, if_true, Bool.not_false, hf]
    cases b <;> simp [storeCells]
  · rw [if_neg hm] at h
    -- the new row, whatever it was
    have grow : ∀ (b : Option Addr) (k : Nat) (vs us : List Value), vs.length = len * szOf P e → us.length = vs.length → (∀ (j : Nat) (a b : Value), vs[j]? = some a → us[j]? = some b → VR σ n a b) → k < len + m →
        s' = .slice b len k → ((Builtin.firstCells (szOf P e) len (.slice b len k)).run P w.drew = .ok us.toArray w.drew) → ∀ {H0 : Heap}, Rel G σ H0 n w → (∀ j c, H0.get j = some c → H.get j = some c) → (∀ j, j < lo → H0.get j = H.get j) →
        Snd P G lo σ H n w (Builtin.append_ #[t, u] ty #[s', x']) (.slice (some ⟨n, 0, none⟩) (len + m) 1) (H0.upd n (some (.cells (vs ++ cs) e (szOf P e)))) (n + 1) := by
      intro b k vs us hvl hul hvu hk hs' hold H0 hR0 hsub hfr
      subst hs'
      let q := Question.appendCap (len + m) k e
      let cap := q.cut (w.tape w.drawn q)
      have hcap : len + m ≤ cap := by simp only [cap, q, Question.cut]; omega
      obtain ⟨l, hl, hv, hRn⟩ := newRow_snd (P := P) (w := w.drew) (H := H0) hR0.drew (cap := cap) (m := m) (len := len) hpos hz hzl hvl hul hvu hcl hdl hrel hcap
      have hnew := hfirst w.drew (fun _ => rfl)
      refine ⟨_, _, _, ?_, hv, hRn, ((Moves.drew hR0).trans (Moves.alloc hR0.drew _ l _ hl)).weaken hsub hfr⟩
      have hle : ¬ len + m ≤ k := by omega
      have hnc : ¬ Builtin.nextslicecap (len + m) k * inf.bytes > 2 ^ 48 := by
        have h2 := nextcap_le (len + m) k (by omega)
        have h3 : inf.bytes ≤ 65536 := by omega
        have := Nat.mul_le_mul h2 h3
        omega
      have hforced : (Question.appendCap (len + m) k e).forced = false := rfl
      simp only [Builtin.append_, List.getElem?_toArray, List.getElem?_cons_zero, List.getElem?_cons_succ, Sem.run_bind, run_underlying ht, run_underlying hu, hsz, Result.andThen_ok, hnotint, Bool.false_eq_true, if_false, hlen,
        Sem.run_pure, hle, Bool.not_false, if_true, run_info hin, hby, hb0, false_or, and_false, or_self]
      have hnc' : ¬ Builtin.nextslicecap (len + m) k * bytesOf P e > 2 ^ 48 := by rw [← hby]; exact hnc
      simp only [hnc', if_false, Sem.run_bind, Sem.run_pure, Result.andThen_ok, run_choose, hforced, Bool.false_eq_true, World.drew_eq, run_askRoom, hold, hnew, run_info hin, run_zero hz, newRow, run_newObj, World.alloc_eq]
      rfl
    split at h
    · split at h
      case isFalse => cases h
      rename_i hnil
      obtain ⟨rfl, rfl⟩ := hnil
      cases h
      obtain ⟨_, _, rfl⟩ := hs.nil_inv
      have := grow none 0 [] [] (by simp) rfl (by simp) (by omega) rfl (by simp [Builtin.firstCells]) hR (fun _ _ h => h) (fun _ _ => rfl)
      simpa using this
    · rename_i i o
      obtain ⟨hi, a', cc, rfl, hspot, hle, hc0, hc1, hA⟩ := hs.sl_inv
      split at h
      · rename_i hz0
        split at h
        case isFalse => cases h
        rename_i hl0
        subst hl0 hz0
        cases h
        have hcc := hc0 rfl
        subst hcc
        have := grow (some a') 0 [] [] (by simp) rfl (by simp) (by omega) rfl (by simp [Builtin.firstCells, loadCells, loadCellsFrom]) hR (fun _ _ h => h) (fun _ _ => rfl)
        simpa using this
      · split at h
        case isFalse => cases h
        rename_i hco
        obtain ⟨rfl, rfl, hlo⟩ := hco
        split at h
        case h_2 => cases h
        rename_i vs t' es hg
        split at h
        case isFalse => cases h
        rename_i hte
        obtain ⟨rfl, rfl, hfit⟩ := hte
        cases h
        rcases hA with rfl | ⟨_, hne⟩
        case inr => exact absurd rfl hne
        obtain ⟨q0, qw, qe, ces, qh, qs, qv, qc⟩ := hR.blk i _ hg
        have hroom := hc1 rfl qw
        rw [q0, qe] at hroom
        rw [q0, Nat.zero_add] at grow ⊢
        -- the old cells
        have hvtl : (vs.take (len * szOf P t')).length = len * szOf P t' := by simp; omega
        obtain ⟨us, hul, hus⟩ := exists_list (p := fun j c => ces[j]? = some c ∧ ∀ x, vs[j]? = some x → VR σ n x c) (len * szOf P t') (fun j hj => by
          have hx : vs[j]? = some vs[j] := List.getElem?_eq_getElem (by omega)
          obtain ⟨c, h2, h3⟩ := qc j _ hx
          exact ⟨c, h2, fun x hx' => by rw [hx] at hx'; cases hx'; exact h3⟩)
        have hvu : ∀ (j : Nat) (a b : Value), (vs.take (len * szOf P t'))[j]? = some a → us[j]? = some b → VR σ n a b := by
          intro j a b ha hb
          have hj : j < len * szOf P t' := by have := (List.getElem?_eq_some_iff.1 hb).1; omega
          rw [List.getElem?_take_of_lt hj] at ha
          exact (hus j b hb).2 a ha
        by_cases hin' : len + m ≤ cc
        · -- in place
          have hbound : (len + m) * szOf P t' ≤ ces.size := by
            have := Nat.mul_le_mul_right (szOf P t') hin'
            omega
          obtain ⟨w', σ', hst, h2, h3, h4⟩ := inPlace_snd (P := P) (m := m) hR hg hlo hfit (by omega) hcl hdl hrel h1d hin' hroom
          have hnew := hfirst w (fun _ => rfl)
          refine ⟨_, w', σ', ?_, h2, h3, h4⟩
          simp only [Builtin.append_, List.getElem?_toArray, List.getElem?_cons_zero, List.getElem?_cons_succ, Sem.run_bind, run_underlying ht, run_underlying hu, hsz, Result.andThen_ok, hnotint, Bool.false_eq_true, if_false, hlen,
              Sem.run_pure, hin', Bool.not_false, if_true, hnew, add_none, Nat.zero_add, hst]
        · -- a new row
          refine grow (some ⟨(σ i).blk, 0, none⟩) cc _ us hvtl (by omega) hvu (by omega) rfl ?_ (hR.kill i) (fun j c h => by
            rcases Heap.get_upd_some h with ⟨_, e⟩ | ⟨_, h⟩
            · cases e
            · exact h) (fun j hj => Heap.get_upd_ne H _ (by omega))
          have hcell : ∀ (j : Nat) (v : Value), us[j]? = some v → w.drew.cell? ((⟨(σ i).blk, 0, none⟩ : Addr).add j) = some v := by
            intro j v hj
            rw [add_none, World.cell?_drew]
            simp [World.cell?, qh, (hus j v hj).1]
          have := run_loadCells_list (P := P) w.drew _ us hcell
          rw [hul] at this
          simpa [Builtin.firstCells] using this
    · cases h

end Go.AL
