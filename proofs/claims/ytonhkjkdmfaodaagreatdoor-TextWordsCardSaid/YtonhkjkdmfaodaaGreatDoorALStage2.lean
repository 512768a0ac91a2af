/- The staged evaluator: code, and its soundness. -/
import Derived.Test.YtonhkjkdmfaodaaGreatDoorALStage
set_option linter.unusedVariables false
set_option linter.unusedSimpArgs false
namespace Go.AL
open Go.RowKit
noncomputable section

def argsK (a : Array Value) (l : List VF) (b : Array Value) (E : VT) : Array Value := ⟨a.toList ++ (l.map (fun f => f.get E) ++ b.toList)⟩
theorem argsK_eq (a b : Array Value) (args : Array Operand) (E : VT) : argsK a (args.toList.map opd) b E = a ++ args.map (ev E.fn) ++ b := by
  apply Array.ext'
  simp [argsK, opd_eq]
def argsR (a b : Array Value) (x : Value) : Array Value := ⟨a.toList ++ (x :: b.toList)⟩
theorem argsR_eq (a b : Array Value) (x : Value) : argsR a b x = a ++ #[x] ++ b := by
  apply Array.ext'
  simp [argsR]

section
variable (P : Program) (G : Nat) (F : FuncId → Option Func) (X : FuncId → XF)

def kThen (k : CF) (d : PF) (rec : Eval) (E : VT) (ds : List Nat) (x : Option OR) : Option R :=
  Option.rec (motive := fun _ => Option R) none (fun r => k.run rec (d.put E r.v) ds r.H r.n r.m) x
def kRet (k : CF) (d : PF) (rec : Eval) (E : VT) (ds : List Nat) (x : Option R) : Option R :=
  Option.rec (motive := fun _ => Option R) none (fun r => k.run rec (d.put E r.v) ds r.H r.n r.m) x
def kExtC (x : XF) (k : CF) (d : PF) (rec : Eval) (args : Array Value) (E : VT) (ds : List Nat) (H : Heap) (n m : Nat) : Option R :=
  match xCall P x args with
  | some v => k.run rec (d.put E v) ds H n m
  | none => match xMake x args H n with
    | some (v, H', n') => k.run rec (d.put E v) ds (norm H') n' m
    | none => none
def kCallV (N : Nat) (ops : Array Oper) (o : Oper) (rest : List Oper) (args : Array Operand) (l : List VF) (k : CF) (d : PF) (rec : Eval) (fv : Value) (E : VT) (ds : List Nat) (H : Heap) (n m : Nat) : Option R :=
  match fv with
  | .func (.func g) a b => (match F g with
    | some _ => kRet k d rec E ds (rec (.call g (argsK a l b E)) H n m)
    | none => kExtC P (X g) k d rec (argsK a l b E) E ds H n m)
  | .func (.yield j) a b => (match a.toList, b.toList with
    | [], [] => stepYield P G rec N ops o rest args j E ds H n m
    | _, _ => none)
  | _ => none
def kNext (k : CF) (d : PF) (rec : Eval) (E : VT) (ds : List Nat) (n m : Nat) (x : Option (Value × Heap × Nat)) : Option R :=
  match x with
  | some (v, H', i) => k.run rec (d.put E v) ds (norm H') n (Nat.min m i)
  | none => none

/-- An operation, and what comes behind it. -/
def opRun (N : Nat) (ops : Array Oper) (o : Oper) (rest : List Oper) (k : CF) : CF :=
  match o.op with
  | .call { callee := .value f, args := args, argTypes := _ } => (match f with
    | .func g => (match F g with
      | some _ => ⟨fun rec E ds H n m => kRet k (putF o.dst) rec E ds (rec (.call g (argsK #[] (args.toList.map opd) #[] E)) H n m)⟩
      | none => ⟨fun rec E ds H n m => kExtC P (X g) k (putF o.dst) rec (argsK #[] (args.toList.map opd) #[] E) E ds H n m⟩)
    | f => ⟨fun rec E ds H n m => kCallV P G F X N ops o rest args (args.toList.map opd) k (putF o.dst) rec ((opd f).get E) E ds H n m⟩)
  | .next x false => ⟨fun rec E ds H n m => kNext k (putF o.dst) rec E ds n m (nextOf ((opd x).get E) H)⟩
  | _ => ⟨fun rec E ds H n m => kThen k (putF o.dst) rec E ds ((opF P o).run E H n m)⟩
def kGuard (a b : CF) (w : Bool) (d : PF) (rec : Eval) (E : VT) (ds : List Nat) (H : Heap) (n m : Nat) : Option R :=
  Bool.rec (motive := fun _ => Option R) (b.run rec (d.put E undef) ds H n m) (a.run rec E ds H n m) w
def opsF (N : Nat) (ops : Array Oper) : List Oper → CF
  | [] => ⟨fun _ E ds H n m => some ⟨.normal, undef, E, ds, H, n, m⟩⟩
  | o :: rest => match o.guard with
    | none => opRun P G F X N ops o rest (opsF N ops rest)
    | some _ => ⟨fun rec E ds H n m => kGuard (opRun P G F X N ops o rest (opsF N ops rest)) (opsF N ops rest) (wantedE ops E.fn o) (putF o.dst) rec E ds H n m⟩

def kSeq (k : CF) (rec : Eval) (x : Option R) : Option R :=
  Option.rec (motive := fun _ => Option R) none (fun r => XX.rec (motive := fun _ => Option R) (k.run rec r.E r.ds r.H r.n r.m) (fun _ => some r) (some r) r.x) x
def kCond (a b : CF) (c : Value) (rec : Eval) (E : VT) (ds : List Nat) (H : Heap) (n m : Nat) : Option R :=
  match c with
  | .bool t => Bool.rec (motive := fun _ => Option R) (b.run rec E ds H n m) (a.run rec E ds H n m) t
  | _ => none
def kBlock (id : Nat) (x : Option R) : Option R :=
  Option.rec (motive := fun _ => Option R) none (fun r => XX.rec (motive := fun _ => Option R) (some r) (fun j => Bool.rec (motive := fun _ => Option R) (some r) (some { r with x := .normal }) (Nat.beq j id)) (some r) r.x) x
def kLoop (top : Bool) (N : Nat) (b : Code) (rec : Eval) (x : Option R) : Option R :=
  Option.rec (motive := fun _ => Option R) none (fun r => XX.rec (motive := fun _ => Option R) (rec (.code top N (.loop b) r.E r.ds) r.H r.n r.m) (fun _ => some r) (some r) r.x) x

def cf (top : Bool) (N : Nat) : Code → CF
  | .skip => ⟨fun _ E ds H n m => some ⟨.normal, undef, E, ds, H, n, m⟩⟩
  | .label _ => ⟨fun _ E ds H n m => some ⟨.normal, undef, E, ds, H, n, m⟩⟩
  | .exit id => ⟨fun _ E ds H n m => some ⟨.exit id, undef, E, ds, H, n, m⟩⟩
  | .ret => ⟨fun _ E ds H n m => some ⟨.ret, undef, E, ds, H, n, m⟩⟩
  | .seq a b => ⟨fun rec E ds H n m => kSeq (cf top N b) rec ((cf top N a).run rec E ds H n m)⟩
  | .cond c a b => ⟨fun rec E ds H n m => kCond (cf top N a) (cf top N b) ((opd c).get E) rec E ds H n m⟩
  | .block id b => ⟨fun rec E ds H n m => kBlock id ((cf top N b).run rec E ds H n m)⟩
  | .loop b => ⟨fun rec E ds H n m => kLoop top N b rec ((cf top N b).run rec E ds H n m)⟩
  | .scope b => cf top N b
  | .region id ops draw => (match draw with
    | false => opsF P G F X N ops ops.toList
    | true => (match plan ops with
      | some us => ⟨fun rec E ds H n m => rec (.draw ops us ops.toList [] E ds) H n m⟩
      | none => ⟨fun _ _ _ _ _ _ => none⟩))
  | .rangeFunc f ps asg body => (match top with
    | true => ⟨fun rec E ds H n m => stepRange F rec N f ps asg body E ds H n m⟩
    | false => ⟨fun _ _ _ _ _ _ => none⟩)
  | _ => ⟨fun _ _ _ _ _ _ => none⟩

structure KF where
  run : Eval → Array Value → Heap → Nat → Nat → Option R
def kEnd (res : List ResultVar) (x : Option R) : Option R :=
  match x with
  | some r => (match r.x with
    | .exit _ => none
    | _ => match dfrs r.H r.ds with
      | true => (match resL P r.E.fn (killAll r.ds r.H) res with
        | some vs => some ⟨.normal, retV vs, .nil, [], killAll r.ds r.H, r.n, minL r.m r.ds⟩
        | none => none)
      | false => none)
  | none => none
def kfn (f : FuncId) : KF :=
  match F f with
  | some fn => (match fn.body with
    | some c => ⟨fun rec args H n m => Bool.rec (motive := fun _ => Option R) none (kEnd P fn.results.toList ((cf P G F X true fn.ntmps c).run rec (VT.ofA args) [] H n m)) (Nat.ble args.size fn.ntmps)⟩
    | none => ⟨fun _ _ _ _ _ => none⟩)
  | none => ⟨fun _ _ _ _ _ => none⟩

def stepS (rec : Eval) : Eval := fun t H n m =>
  match t with
  | .code top N c E ds => (cf P G F X top N c).run rec E ds H n m
  | .ops N ops rest E ds => (opsF P G F X N ops rest).run rec E ds H n m
  | .draw ops us rest recs E ds => (match rest, us with
    | [], _ => some ⟨.normal, undef, E, ds, H, n, m⟩
    | o :: rest, u :: us => stepDraw P F X rec ops u us o rest recs E ds H n m
    | _, [] => none)
  | .call f args => (kfn P G F X f).run rec args H n m
def evalS (k : Nat) : Eval := Nat.rec (motive := fun _ => Eval) (fun _ _ _ _ => none) (fun _ ih => stepS P G F X ih) k
end

/-! ### Soundness -/
variable {P : Program} {G : Nat} {Giv : GivT} {F : FuncId → Option Func} {X : FuncId → XF} {rec : Eval}

theorem opRun_good (T : Tabs P G F X) (hrec : Fine P G Giv rec) {N : Nat} {ops : Array Oper} {o : Oper} {rest : List Oper} {k : CF} {E : VT} {ds : List Nat} {H : Heap} {n m : Nat} {r : R}
    (hk : ∀ E ds H n m r, Dom H n → H.hid = [] → m ≤ n → k.run rec E ds H n m = some r → Good P G Giv (.ops N ops rest E ds) H n m r)
    (hd : Dom H n) (hh : H.hid = []) (hm : m ≤ n) (hw : wantedE ops E.fn o = true) (h : (opRun P G F X N ops o rest k).run rec E ds H n m = some r) : Good P G Giv (.ops N ops (o :: rest) E ds) H n m r := by
  have call : ∀ {f args tys g a b}, o.op = .call { callee := .value f, args := args, argTypes := tys } → ev E.fn f = .func (.func g) a b → ∀ {fn}, F g = some fn →
      kRet k (putF o.dst) rec E ds (rec (.call g (a ++ args.map (ev E.fn) ++ b)) H n m) = some r → Good P G Giv (.ops N ops (o :: rest) E ds) H n m r := by
    intro f args tys g a b ho hf fn hfn h
    unfold kRet at h
    cases h1 : rec (.call g (a ++ args.map (ev E.fn) ++ b)) H n m with
    | none => rw [h1] at h; cases h
    | some r1 =>
      rw [h1] at h
      have h : k.run rec ((putF o.dst).put E r1.v) ds r1.H r1.n r1.m = some r := h
      rw [putF_eq] at h
      have g1 := hrec _ _ _ _ _ hd hh hm h1
      have g2 := hk _ _ _ _ _ _ (g1.grow.dom hd) g1.hid (g1.le hm) h
      refine g1.then g2 fun lo hl1 hl2 s1 s2 => ?_
      obtain ⟨e1, e2, s2⟩ := s2
      rw [VT.fn_put] at s2
      obtain ⟨c, hb⟩ := T.bd _ _ hfn
      refine ⟨e1, e2, .call _ hw ho hf (T.fn _ _ hfn) hb s1 ?_⟩
      rintro v H' n' ⟨rfl, rfl, rfl⟩
      exact s2
  have ext : ∀ {f args tys g a b}, o.op = .call { callee := .value f, args := args, argTypes := tys } → ev E.fn f = .func (.func g) a b →
      kExtC P (X g) k (putF o.dst) rec (a ++ args.map (ev E.fn) ++ b) E ds H n m = some r → Good P G Giv (.ops N ops (o :: rest) E ds) H n m r := by
    intro f args tys g a b ho hf h
    unfold kExtC at h
    split at h
    · rename_i v he
      obtain ⟨fn, hfn, hb, hx, he⟩ := xCall_ok (H := H) (n := n) (T.ext g) he
      rw [putF_eq] at h
      have g := hk _ _ _ _ _ _ hd hh hm h
      exact good_ops_next (Nat.le_refl _) .refl (fun _ _ => rfl) (.refl _ _) g (fun lo _ s => .ext hw ho hf hfn hb hx he s)
    · split at h
      case h_2 => cases h
      rename_i v H1 n1 he
      obtain ⟨⟨⟨fn, hfn, hb, hx, he⟩, hs⟩, _⟩ := xMake_ok (T.ext g) he
      rw [norm_eq (by rw [hs.hid]; exact hh), putF_eq] at h
      have g := hk _ _ _ _ _ _ (hs.grow.dom hd) (by rw [hs.hid]; exact hh) (by have := hs.grow.1; omega) h
      exact Good.shp (wr := none) hm hs g (fun lo _ s => .mnz hw ho hf hfn hb hx he s)
  have val : ∀ {f args tys}, o.op = .call { callee := .value f, args := args, argTypes := tys } → kCallV P G F X N ops o rest args (args.toList.map opd) k (putF o.dst) rec (ev E.fn f) E ds H n m = some r → Good P G Giv (.ops N ops (o :: rest) E ds) H n m r := by
    intro f args tys ho h
    unfold kCallV at h
    split at h
    · rename_i g a b hf
      rw [argsK_eq] at h
      split at h
      · rename_i fn hfn; exact call ho hf hfn h
      · exact ext ho hf h
    · rename_i j a b hf
      split at h
      case h_2 => cases h
      rename_i ha hb
      have ea : a = #[] := by rw [← Array.toList_inj]; exact ha
      have eb : b = #[] := by rw [← Array.toList_inj]; exact hb
      subst ea eb
      exact good_yield hrec hd hh hm hw ho hf h
    · cases h
  unfold opRun at h
  split at h
  · rename_i f args tys ho
    split at h
    · rename_i g
      split at h
      · rename_i fn hfn
        simp only [argsK_eq] at h
        exact call (f := .func g) (a := #[]) (b := #[]) ho rfl hfn h
      · simp only [argsK_eq] at h
        exact ext (f := .func g) (a := #[]) (b := #[]) ho rfl h
    · simp only [opd_eq] at h
      exact val ho h
  · rename_i x ho
    simp only [opd_eq] at h
    unfold kNext at h
    split at h
    case h_2 => cases h
    rename_i v H1 i hn
    obtain ⟨hs, hn2⟩ := nextOf_spec (n := n) hn
    rw [norm_eq (by rw [hs.hid]; exact hh), putF_eq] at h
    have g := hk _ _ _ _ _ _ (hs.grow.dom hd) (by rw [hs.hid]; exact hh) (Nat.le_trans (Nat.min_le_left _ _) (Nat.le_trans hm hs.grow.1)) h
    refine Good.shp (wr := some i) hm hs g (fun lo hlo s => .next _ hw ho (hn2 lo (Nat.le_trans hlo (Nat.min_le_right _ _))) ?_)
    rintro v H' n' ⟨rfl, rfl, rfl⟩
    exact s
  · unfold kThen at h
    cases h1 : (opF P o).run E H n m with
    | none => simp only [h1] at h; cases h
    | some x =>
      simp only [h1] at h
      have h : k.run rec ((putF o.dst).put E x.v) ds x.H x.n x.m = some r := h
      obtain ⟨ho, hxm⟩ := opF_ok hh h1
      rw [putF_eq, hxm] at h
      obtain ⟨hs, hlo⟩ := w_op ho
      have g := hk _ _ _ _ _ _ (hs.grow.dom hd) (by rw [hs.hid]; exact hh) (by have := minO_le m (wrOf o (ev E.fn)); have := hs.grow.1; omega) h
      exact Good.shp hm hs g (fun lo hl s => .op hw (hlo lo fun i e => Nat.le_trans hl (minO_wr e)) s)

theorem opsF_good (T : Tabs P G F X) (hrec : Fine P G Giv rec) {N : Nat} {ops : Array Oper} : ∀ (rest : List Oper) (E : VT) (ds : List Nat) (H : Heap) (n m : Nat) (r : R), Dom H n → H.hid = [] → m ≤ n →
    (opsF P G F X N ops rest).run rec E ds H n m = some r → Good P G Giv (.ops N ops rest E ds) H n m r
  | [], E, ds, H, n, m, r, hd, hh, hm, h => by
    simp only [opsF] at h
    cases h
    exact ⟨hh, Nat.le_refl _, .refl, fun _ _ => rfl, .refl _ _, fun lo _ => ⟨rfl, rfl, .nil ⟨rfl, rfl, rfl⟩⟩⟩
  | o :: rest, E, ds, H, n, m, r, hd, hh, hm, h => by
    have ih := opsF_good T hrec (N := N) (ops := ops) rest
    simp only [opsF] at h
    split at h
    · rename_i hg
      exact opRun_good T hrec ih hd hh hm (by simp [wantedE, Region.wanted, hg]) h
    · simp only [kGuard] at h
      cases hw : wantedE ops E.fn o with
      | true => rw [hw] at h; exact opRun_good T hrec ih hd hh hm hw h
      | false =>
        rw [hw] at h
        simp only [putF_eq] at h
        have g := ih _ _ _ _ _ _ hd hh hm h
        exact good_ops_next (Nat.le_refl _) .refl (fun _ _ => rfl) (.refl _ _) g (fun lo _ s => .unwanted hw s)

theorem cf_good (T : Tabs P G F X) (hrec : Fine P G Giv rec) {top : Bool} {N : Nat} : ∀ (c : Code) (E : VT) (ds : List Nat) (H : Heap) (n m : Nat) (r : R), Dom H n → H.hid = [] → m ≤ n →
    (cf P G F X top N c).run rec E ds H n m = some r → Good P G Giv (.code top N c E ds) H n m r := by
  intro c
  induction c with
  | skip => intro E ds H n m r hd hh hm h; cases h; exact .leaf hh fun lo => .skip ⟨rfl, rfl, rfl, rfl, rfl⟩
  | label l => intro E ds H n m r hd hh hm h; cases h; exact .leaf hh fun lo => .label ⟨rfl, rfl, rfl, rfl, rfl⟩
  | exit id => intro E ds H n m r hd hh hm h; cases h; exact .leaf hh fun lo => .exit ⟨rfl, rfl, rfl, rfl, rfl⟩
  | ret => intro E ds H n m r hd hh hm h; cases h; exact .leaf hh fun lo => .ret ⟨rfl, rfl, rfl, rfl, rfl⟩
  | seq a b iha ihb =>
    intro E ds H n m r hd hh hm h
    simp only [cf, kSeq] at h
    cases h1 : (cf P G F X top N a).run rec E ds H n m with
    | none => rw [h1] at h; cases h
    | some r1 =>
      rw [h1] at h
      have g1 := iha _ _ _ _ _ _ hd hh hm h1
      simp only at h
      have other : r1.x ≠ .normal → some r1 = some r → Good P G Giv (.code top N (.seq a b) E ds) H n m r := by
        intro hx h
        cases h
        refine g1.as rfl rfl rfl fun lo _ s1 => ?_
        refine .seq (exactQ _) s1 ?_ ?_
        · rintro E' ds' H' n' ⟨e, _⟩
          exact absurd e.symm hx
        · exact fun x E' ds' H' n' _ h => h
      cases hx : r1.x with
      | normal =>
        rw [hx] at h
        have g2 := ihb _ _ _ _ _ _ (g1.grow.dom hd) g1.hid (g1.le hm) h
        refine g1.then g2 fun lo _ _ s1 s2 => ?_
        refine .seq (exactQ r1) s1 ?_ ?_
        · rintro E' ds' H' n' ⟨_, rfl, rfl, rfl, rfl⟩
          exact s2
        · rintro x E' ds' H' n' hne ⟨rfl, _⟩
          exact absurd hx hne
      | exit id => rw [hx] at h; exact other (by simp [hx]) h
      | ret => rw [hx] at h; exact other (by simp [hx]) h
  | cond c a b iha ihb =>
    intro E ds H n m r hd hh hm h
    simp only [cf, opd_eq, kCond] at h
    split at h
    · rename_i t hb
      cases t with
      | true => exact (iha _ _ _ _ _ _ hd hh hm h).as rfl rfl rfl fun lo _ s => .thn hb s
      | false => exact (ihb _ _ _ _ _ _ hd hh hm h).as rfl rfl rfl fun lo _ s => .els hb s
    · cases h
  | block id b ihb =>
    intro E ds H n m r hd hh hm h
    simp only [cf, kBlock] at h
    cases h1 : (cf P G F X top N b).run rec E ds H n m with
    | none => rw [h1] at h; cases h
    | some r1 =>
      rw [h1] at h
      have g1 := ihb _ _ _ _ _ _ hd hh hm h1
      simp only at h
      have other : (∀ id', r1.x ≠ .exit id') → some r1 = some r → Good P G Giv (.code top N (.block id b) E ds) H n m r := by
        intro hx h
        cases h
        refine g1.as rfl rfl rfl fun lo _ s1 => ?_
        refine .block (exactQ _) s1 ?_ ?_ ?_ ?_
        · exact fun E' ds' H' n' h => h
        · rintro E' ds' H' n' ⟨e, _⟩; exact absurd e.symm (hx _)
        · exact fun k E' ds' H' n' hk h => h
        · exact fun E' ds' H' n' h => h
      cases hx : r1.x with
      | normal => rw [hx] at h; exact other (by simp [hx]) h
      | ret => rw [hx] at h; exact other (by simp [hx]) h
      | exit j =>
        rw [hx] at h
        cases hj : Nat.beq j id with
        | true =>
          have := Nat.eq_of_beq_eq_true hj
          subst this
          simp only [hj] at h
          cases h
          refine g1.as rfl rfl rfl fun lo _ s1 => ?_
          refine .block (exactQ r1) s1 ?_ ?_ ?_ ?_
          · rintro E' ds' H' n' ⟨e, _⟩; rw [hx] at e; cases e
          · rintro E' ds' H' n' ⟨e, e1, e2, e3, e4⟩; exact ⟨rfl, e1, e2, e3, e4⟩
          · rintro k E' ds' H' n' hk ⟨e, _⟩; rw [hx] at e; cases e; exact absurd rfl hk
          · rintro E' ds' H' n' ⟨e, _⟩; rw [hx] at e; cases e
        | false =>
          have hne : j ≠ id := by rintro rfl; simp at hj
          simp only [hj] at h
          cases h
          refine g1.as rfl rfl rfl fun lo _ s1 => ?_
          refine .block (exactQ _) s1 ?_ ?_ ?_ ?_
          · rintro E' ds' H' n' ⟨e, _⟩; rw [hx] at e; cases e
          · rintro E' ds' H' n' ⟨e, _⟩; rw [hx] at e; cases e; exact absurd rfl hne
          · exact fun k E' ds' H' n' hk h => h
          · exact fun E' ds' H' n' h => h
  | loop b ihb =>
    intro E ds H n m r hd hh hm h
    simp only [cf, kLoop] at h
    cases h1 : (cf P G F X top N b).run rec E ds H n m with
    | none => rw [h1] at h; cases h
    | some r1 =>
      rw [h1] at h
      have g1 := ihb _ _ _ _ _ _ hd hh hm h1
      simp only at h
      have other : r1.x ≠ .normal → some r1 = some r → Good P G Giv (.code top N (.loop b) E ds) H n m r := by
        intro hx h
        cases h
        refine g1.as rfl rfl rfl fun lo _ s1 => ?_
        refine .loop (exactQ _) s1 ?_ ?_
        · rintro E' ds' H' n' ⟨e, _⟩
          exact absurd e.symm hx
        · exact fun x E' ds' H' n' _ h => h
      cases hx : r1.x with
      | normal =>
        rw [hx] at h
        have g2 := hrec _ _ _ _ _ (g1.grow.dom hd) g1.hid (g1.le hm) h
        refine g1.then g2 fun lo _ _ s1 s2 => ?_
        refine .loop (exactQ r1) s1 ?_ ?_
        · rintro E' ds' H' n' ⟨_, rfl, rfl, rfl, rfl⟩
          exact s2
        · rintro x E' ds' H' n' hne ⟨rfl, _⟩
          exact absurd hx hne
      | exit id => rw [hx] at h; exact other (by simp [hx]) h
      | ret => rw [hx] at h; exact other (by simp [hx]) h
  | scope b ihb =>
    intro E ds H n m r hd hh hm h
    exact (ihb _ _ _ _ _ _ hd hh hm h).as rfl rfl rfl fun lo _ s => .scope s
  | region id ops draw =>
    intro E ds H n m r hd hh hm h
    cases draw with
    | false =>
      simp only [cf] at h
      refine (opsF_good T hrec _ _ _ _ _ _ _ hd hh hm h).as rfl rfl rfl fun lo _ s => ?_
      obtain ⟨e1, e2, s⟩ := s
      refine .region ?_
      have : (fun (E' : Env) (H' : Heap) (n' : Nat) => E' = r.E.fn ∧ H' = r.H ∧ n' = r.n) = (fun E' H' n' => exactQ r .normal E' ds H' n') := by
        funext E' H' n'
        simp [exactQ, e1, e2]
      rw [this] at s
      exact s
    | true =>
      simp only [cf] at h
      split at h
      case h_2 => cases h
      rename_i us hus
      exact (hrec _ _ _ _ _ hd hh hm h).as rfl rfl rfl fun lo _ s => run_draw (plan_spec hus) s
  | rangeFunc f ps asg body iha ihb =>
    intro E ds H n m r hd hh hm h
    simp only [cf] at h
    cases top with
    | true => exact good_range T hrec hd hh hm h
    | false => cases h
  | goto l => intro E ds H n m r hd hh hm h; cases h
  | refuse w => intro E ds H n m r hd hh hm h; cases h

theorem kfn_good (T : Tabs P G F X) (hrec : Fine P G Giv rec) {f : FuncId} {args : Array Value} {H : Heap} {n m : Nat} {r : R} (hd : Dom H n) (hh : H.hid = []) (hm : m ≤ n)
    (h : (kfn P G F X f).run rec args H n m = some r) : Good P G Giv (.call f args) H n m r := by
  let rec2 : Eval := fun t => match t with
    | .code top N c E ds => (cf P G F X top N c).run rec E ds
    | t => rec t
  have h2 : Fine P G Giv rec2 := by
    intro t H n m r hd hh hm h
    cases t with
    | code top N c E ds => exact cf_good T hrec _ _ _ _ _ _ _ hd hh hm h
    | ops N ops rest E ds => exact hrec _ _ _ _ _ hd hh hm h
    | draw ops us rest recs E ds => exact hrec _ _ _ _ _ hd hh hm h
    | call f args => exact hrec _ _ _ _ _ hd hh hm h
  refine good_call T h2 hd hh hm ?_
  unfold kfn at h
  unfold stepCall
  cases hf : F f with
  | none => rw [hf] at h; cases h
  | some fn =>
    rw [hf] at h
    simp only at h ⊢
    cases hb : fn.body with
    | none => rw [hb] at h; cases h
    | some c =>
      rw [hb] at h
      simp only at h ⊢
      cases hs : Nat.ble args.size fn.ntmps with
      | false => rw [hs] at h; cases h
      | true => rw [hs] at h; exact h

theorem fine_stepS (T : Tabs P G F X) (hrec : Fine P G Giv rec) : Fine P G Giv (stepS P G F X rec) := by
  intro t H n m r hd hh hm h
  cases t with
  | code top N c E ds => exact cf_good T hrec _ _ _ _ _ _ _ hd hh hm h
  | ops N ops rest E ds => exact opsF_good T hrec _ _ _ _ _ _ _ hd hh hm h
  | draw ops us rest recs E ds => exact fine_step T hrec (.draw ops us rest recs E ds) H n m r hd hh hm h
  | call f args => exact kfn_good T hrec hd hh hm h
theorem evalS_good (T : Tabs P G F X) : ∀ k, Fine P G Giv (evalS P G F X k)
  | 0 => fun _ _ _ _ _ _ _ _ h => by cases h
  | k + 1 => fine_stepS T (evalS_good T k)
/-- What the evaluator shows of a call. -/
theorem evalS_call (T : Tabs P G F X) {k : Nat} {f : FuncId} {args : Array Value} {H : Heap} {n m lo : Nat} {r : R} (hd : Dom H n) (hh : H.hid = []) (hm : m ≤ n) (h : evalS P G F X k (.call f args) H n m = some r) (hlo : lo ≤ r.m) :
    RCall P G Giv lo f args H n (fun v H' n' => v = r.v ∧ H' = r.H ∧ n' = r.n) :=
  (evalS_good T k _ _ _ _ _ hd hh hm h).sem lo hlo

end
end Go.AL
