/- An abstract walk over the model: what a function does, as a computation on described values; proved once for all functions. -/
import Derived.Test.YtjgooecohepkoaaGreatDoorEAB
set_option linter.unusedVariables false
set_option linter.unusedSimpArgs false
namespace Go.Abs
open Go

section ops
variable {Y : Sy} {E : Env Y} {o : Oper} {σ : List (Nat × D)} {S : Store} {nx : Nat} {K : KT}

/-! ### Moves between temporaries -/
def vMove (x : D) (S : Store) (nx : Nat) (K : KT) : Prop := K x S nx [] []
theorem vMove_ok {x : Operand} (ho : o.op = .move x ∨ o.op = .assign x) (h : vMove (evD E.gl σ x) S nx K) : VopRes E o σ S nx K := by
  have hdef : ∀ c, o.op ≠ .defer c := by rcases ho with ho | ho <;> rw [ho] <;> simp
  have hx : x ∈ o.op.operands := by rcases ho with ho | ho <;> rw [ho] <;> simp [Op.operands]
  exact VopRes.pure (acts_read hdef fun a w g hr hu _ => ⟨a.eval x, by rcases ho with ho | ho <;> simp [execOp, ho], rep_eval hr hu hx⟩) h

def vPick (c x y : D) (S : Store) (nx : Nat) (K : KT) : Prop :=
  match c with
  | .v (.bool t) => (t = true → K x S nx [] []) ∧ (t = false → K y S nx [] [])
  | _ => False
theorem vPick_ok {c x y : Operand} (ho : o.op = .pick c x y) (h : vPick (evD E.gl σ c) (evD E.gl σ x) (evD E.gl σ y) S nx K) : VopRes E o σ S nx K := by
  have hdef : ∀ c, o.op ≠ .defer c := by rw [ho]; simp
  unfold vPick at h
  split at h
  · rename_i t hc
    have hcm : c ∈ o.op.operands := by rw [ho]; simp [Op.operands]
    have hxm : x ∈ o.op.operands := by rw [ho]; simp [Op.operands]
    have hym : y ∈ o.op.operands := by rw [ho]; simp [Op.operands]
    cases t with
    | true =>
      refine VopRes.pure (acts_read hdef fun a w g hr hu _ => ⟨a.eval x, ?_, rep_eval hr hu hxm⟩) (h.1 rfl)
      have := rep_eval hr hu hcm
      rw [hc] at this
      simp only [Rep] at this
      simp [execOp, ho, this, asBool]
    | false =>
      refine VopRes.pure (acts_read hdef fun a w g hr hu _ => ⟨a.eval y, ?_, rep_eval hr hu hym⟩) (h.2 rfl)
      have := rep_eval hr hu hcm
      rw [hc] at this
      simp only [Rep] at this
      simp [execOp, ho, this, asBool]
  · exact h.elim

def isPtr : D → Bool
  | .ep _ | .ref _ _ | .oel _ _ _ _ | .it _ => true
  | .v (.pointer (some _)) => true
  | _ => false
def vNil (x : D) (S : Store) (nx : Nat) (K : KT) : Prop := isPtr x = true ∧ K x S nx [] []
theorem vNil_ok {x : Operand} (ho : o.op = .nilCheck x) (h : vNil (evD E.gl σ x) S nx K) : VopRes E o σ S nx K := by
  have hdef : ∀ c, o.op ≠ .defer c := by rw [ho]; simp
  have hx : x ∈ o.op.operands := by rw [ho]; simp [Op.operands]
  refine VopRes.pure (acts_read hdef fun a w g hr hu _ => ⟨a.eval x, ?_, rep_eval hr hu hx⟩) h.2
  have hrep := rep_eval hr hu hx
  have hp : ∃ ad, a.eval x = .pointer (some ad) := by
    have h1 := h.1
    cases hev : evD E.gl σ x <;> rw [hev] at h1 hrep <;> simp only [Rep] at hrep
    case ep => obtain ⟨ad, _, e, _⟩ := hrep; exact ⟨ad, e⟩
    case ref => obtain ⟨_, _, _, e⟩ := hrep; exact ⟨_, e⟩
    case oel => obtain ⟨_, _, _, e⟩ := hrep; exact ⟨_, e⟩
    case it => obtain ⟨_, _, _, e⟩ := hrep; exact ⟨_, e⟩
    case v y =>
      cases y <;> simp only [isPtr, Bool.false_eq_true] at h1
      case pointer p =>
        cases p <;> simp only [Bool.false_eq_true] at h1
        case some ad => exact ⟨ad, hrep⟩
    all_goals simp [isPtr] at h1
  obtain ⟨ad, e⟩ := hp
  simp [execOp, ho, e]

def vExtract (x : D) (i : Nat) (S : Store) (nx : Nat) (K : KT) : Prop :=
  match x with
  | .tup ds => onSome ds[i]? fun d => K d S nx [] []
  | _ => False
theorem vExtract_ok {x : Operand} {i : Nat} (ho : o.op = .extract x i) (h : vExtract (evD E.gl σ x) i S nx K) : VopRes E o σ S nx K := by
  have hdef : ∀ c, o.op ≠ .defer c := by rw [ho]; simp
  have hx : x ∈ o.op.operands := by rw [ho]; simp [Op.operands]
  unfold vExtract at h
  split at h
  · rename_i ds hev
    obtain ⟨d, hd, hK⟩ := h
    refine VopRes.pure (acts_read hdef fun a w g hr hu _ => ?_) hK
    have hrep := rep_eval hr hu hx
    rw [hev] at hrep
    simp only [Rep] at hrep
    obtain ⟨vs, e, hl⟩ := hrep
    obtain ⟨v, hv, hr⟩ := hl.get hd
    exact ⟨v, by simp [execOp, ho, e, Instr.extract, hv], hr⟩
  · exact h.elim

def vFunc (f : Fn) (fi ca : List D) (S : Store) (nx : Nat) (K : KT) : Prop := K (.fn f fi ca) S nx [] []
theorem repL_map {a : Act} {w : World} {g : G} (hr : Reach E w g) (hu : ∀ x ∈ useOf o σ, Rep w g (a.tmps.getD x.1 undef) x.2) : ∀ (l : List Operand), (∀ x ∈ l, x ∈ o.op.operands) → RepL w g (l.map a.eval) (l.map (evD E.gl σ))
  | [], _ => by simp [RepL]
  | x :: r, h => by
    simp only [List.map_cons, RepL]
    exact ⟨rep_eval hr hu (h x (by simp)), repL_map hr hu r (fun y hy => h y (by simp [hy]))⟩
theorem vFunc_ok {f : Fn} {fi ca : Array Operand} (ho : o.op = .makeFunc f fi ca) (h : vFunc f (fi.toList.map (evD E.gl σ)) (ca.toList.map (evD E.gl σ)) S nx K) : VopRes E o σ S nx K := by
  have hdef : ∀ c, o.op ≠ .defer c := by rw [ho]; simp
  refine VopRes.pure (acts_read hdef fun a w g hr hu _ => ⟨.func f (fi.map a.eval) (ca.map a.eval), by simp [execOp, ho, Instr.makeFunc], ?_⟩) h
  simp only [Rep]
  refine ⟨fi.toList.map a.eval, ca.toList.map a.eval, ?_, repL_map hr hu _ ?_, repL_map hr hu _ ?_⟩
  · congr 1 <;> (apply Array.toList_inj.1; simp)
  · intro x hx; rw [ho]; simp [Op.operands]; left; simpa using hx
  · intro x hx; rw [ho]; simp [Op.operands]; right; simpa using hx

/-! ### New variables -/
theorem repL_of_toList {w : World} {g : G} {vs : Array Value} {cs : List D} (h : RepL w g vs.toList cs) : RepL w g vs.toList cs := h

theorem tr_alloc_frz {w : World} {g : G} (o : Obj) : Tr (fun _ => False) w g (w.alloc o) (frz g w.heap.size) :=
  ⟨rfl, rfl, rfl, by simp, fun b hb _ => heap_alloc_old w o hb, fun b h => .inl h, fun b h hb _ => by rcases h with h | h; exact h; omega, fun _ _ h => h, fun l b c h1 h2 => by simp only [frz] at h1; rw [h1] at h2; cases h2⟩
theorem tr_alloc_named {w : World} {g : G} {nx : Nat} (hφ : g.φ nx = none) (o : Obj) (cap : Nat) : Tr (fun _ => False) w g (w.alloc o) (named g nx (some w.heap.size, cap)) :=
  ⟨rfl, rfl, rfl, by simp, fun b hb _ => heap_alloc_old w o hb, fun b h => h, fun b h hb _ => h, fun l p h => by
    simp only [named]; split
    · rename_i e; subst e; rw [hφ] at h; cases h
    · exact h, fun l b c h1 h2 => by
    simp only [named] at h1; split at h1
    · cases h1; exact .inl (Nat.le_refl _)
    · rw [h1] at h2; cases h2⟩

theorem cellsAt_new (w : World) (arr : Array Value) (t : TypeId) : cellsAt (w.alloc (.cells arr t)) ⟨w.heap.size, 0, none⟩ arr.toList := by
  have := cellsAt_block (heap_alloc_new w (.cells arr t)) 0
  simpa using this

def vNew (fz : Bool) (cs : List D) (S : Store) (nx : Nat) (K : KT) : Prop :=
  bif fz then freeL cs = true ∧ K (.ep cs) S nx [] [] else K (.ref nx 0) (putS S nx (.box cs)) (nx + 1) [] [nx]
theorem vNew_ok {fz : Bool} {cs : List D} (hdef : ∀ c, o.op ≠ .defer c)
    (hrun : ∀ (a : Act) w g, Reach E w g → (∀ x ∈ useOf o σ, Rep w g (a.tmps.getD x.1 undef) x.2) → ∃ arr t, (execOp a.eval o).run E.P w = .ok (.value (.pointer (some ⟨w.heap.size, 0, none⟩))) (w.alloc (.cells arr t)) ∧ RepL w g arr.toList cs)
    (h : vNew fz cs S nx K) : VopRes E o σ S nx K := by
  cases fz with
  | true =>
    obtain ⟨hfr, h⟩ := h
    refine VopRes.pure (acts_of hdef fun a w g hr hu _ _ => ?_) h
    obtain ⟨arr, t, h1, h2⟩ := hrun a w g hr hu
    refine ⟨_, _, _, .inl h1, move_alloc_frozen hr _, ?_⟩
    simp only [Rep]
    exact ⟨_, arr.toList, rfl, .inr rfl, cellsAt_new w arr t, (h2.tr (tr_alloc_frz _) hr.wf (fun _ _ h => h)).toCl hfr⟩
  | false =>
    refine VopRes.new (acts_of hdef fun a w g hr hu _ hf => ?_) h
    obtain ⟨arr, t, h1, h2⟩ := hrun a w g hr hu
    have hφ : g.φ nx = none := hf nx (by simp [look]) (by simp [look])
    refine ⟨_, _, _, .inl h1, move_alloc_named hr hφ _ 0 ?_, ?_⟩
    · exact ⟨_, arr, t, rfl, heap_alloc_new w _, h2.tr (tr_alloc_named hφ _ 0) hr.wf (fun _ _ h => h)⟩
    · simp only [Rep]
      exact ⟨_, 0, by simp [named], rfl⟩

def vBox (fz : Bool) (x : D) (S : Store) (nx : Nat) (K : KT) : Prop := onSome (cellsD x) fun cs => vNew fz cs S nx K
theorem vBox_ok {fz : Bool} {t : Nat} {x : Operand} (ho : o.op = .box t x) (h : vBox fz (evD E.gl σ x) S nx K) : VopRes E o σ S nx K := by
  obtain ⟨cs, hcs, h⟩ := h
  have hx : x ∈ o.op.operands := by rw [ho]; simp [Op.operands]
  refine vNew_ok (by rw [ho]; simp) (fun a w g hr hu => ⟨(a.eval x).cells, t, ?_, rep_cells (rep_eval hr hu hx) hcs⟩) h
  simp [execOp, ho, Instr.box, newVar, newRow, newObj, Sem.run]
def vAlloc {Y : Sy} (E : Env Y) (fz : Bool) (t : Nat) (S : Store) (nx : Nat) (K : KT) : Prop := onSome (E.T t) fun ti => vNew fz ti.zero S nx K
theorem vAlloc_ok {fz : Bool} {t : Nat} (ho : o.op = .alloc t) (h : vAlloc E fz t S nx K) : VopRes E o σ S nx K := by
  obtain ⟨ti, hti, h⟩ := h
  refine vNew_ok (by rw [ho]; simp) (fun a w g hr hu => ?_) h
  obtain ⟨z, hz, hl⟩ := run_zeroValue' hti w g
  refine ⟨z.cells, t, ?_, hl⟩
  simp [execOp, ho, Instr.alloc, hz, newVar, newRow, newObj, Sem.run]

/-! ### Addresses -/
def addD (x : D) (off : Nat) : Option D :=
  match x with
  | .ep cs => some (.ep (cs.drop off))
  | .ref l i => some (.ref l (i + off))
  | .oel l s i j => some (.oel l s i (j + off))
  | _ => none
theorem addr_add (b i k : Nat) : (⟨b, i, none⟩ : Addr).add k = ⟨b, i + k, none⟩ := by unfold Addr.add; split <;> simp_all
theorem rep_add {w : World} {g : G} {v : Value} {x d : D} {off : Nat} (h : Rep w g v x) (hd : addD x off = some d) : ∃ ad, v = .pointer (some ad) ∧ Rep w g (.pointer (some (ad.add off))) d := by
  unfold addD at hd
  split at hd <;> cases hd <;> simp only [Rep] at h
  · obtain ⟨ad, vs, rfl, hz, hc, hl⟩ := h
    refine ⟨ad, rfl, ?_⟩
    simp only [Rep]
    exact ⟨_, _, rfl, by rw [add_block]; exact hz, hc.drop off, hl.drop off⟩
  · obtain ⟨b, c, hφ, rfl⟩ := h
    refine ⟨_, rfl, ?_⟩
    simp only [Rep]
    exact ⟨b, c, hφ, by rw [addr_add]⟩
  · obtain ⟨b, c, hφ, rfl⟩ := h
    refine ⟨_, rfl, ?_⟩
    simp only [Rep]
    exact ⟨b, c, hφ, by rw [addr_add, Nat.add_assoc]⟩

def vFieldAddr {Y : Sy} (E : Env Y) (t : Nat) (x : D) (f : Nat) (S : Store) (nx : Nat) (K : KT) : Prop :=
  onSome (E.T t) fun ti => match ti.k with
  | .struct fs => onSome fs[f]? fun p => onSome (E.T p.2) fun fi => fi.size ≠ 0 ∧ onSome (addD x p.1) fun d => K d S nx [] []
  | _ => False
theorem toTK_struct {d : TypeDesc} {fs : List (Nat × Nat)} (h : toTK d = .struct fs) : ∃ gs, d = .struct gs ∧ fs = gs.toList.map fun f => (f.offset, f.type) := by
  cases d <;> simp [toTK] at h; exact ⟨_, rfl, h.symm⟩
theorem toTK_slice {d : TypeDesc} {e : Nat} (h : toTK d = .slice e) : d = .slice e := by cases d <;> simp [toTK] at h; subst h; rfl
theorem toTK_array {d : TypeDesc} {n e : Nat} (h : toTK d = .array n e) : d = .array n e := by cases d <;> simp [toTK] at h; obtain ⟨rfl, rfl⟩ := h; rfl
theorem toTK_map {d : TypeDesc} {k e : Nat} (h : toTK d = .map k e) : d = .map k e := by cases d <;> simp [toTK] at h; obtain ⟨rfl, rfl⟩ := h; rfl
theorem toTK_int {d : TypeDesc} {k : IntKind} (h : toTK d = .int k) : d = .int k := by cases d <;> simp [toTK] at h; subst h; rfl
theorem toTK_str {d : TypeDesc} (h : toTK d = .str) : d = .string := by cases d <;> simp [toTK] at h; rfl
theorem toTK_bool {d : TypeDesc} (h : toTK d = .bool) : d = .bool := by cases d <;> simp [toTK] at h; rfl

theorem vFieldAddr_ok {t : Nat} {x : Operand} {f : Nat} (ho : o.op = .fieldAddr t x f) (h : vFieldAddr E t (evD E.gl σ x) f S nx K) : VopRes E o σ S nx K := by
  obtain ⟨ti, hti, h⟩ := h
  have hx : x ∈ o.op.operands := by rw [ho]; simp [Op.operands]
  split at h
  · rename_i fs hk
    obtain ⟨p, hp, fi, hfi, hsz, d, hd, hK⟩ := h
    obtain ⟨i, desc, z, h1, h2, h3, h4, h5, h6, h7, h8, h9⟩ := ti_spec hti
    rw [hk] at h8
    obtain ⟨gs, rfl, rfl⟩ := toTK_struct h8.symm
    rw [List.getElem?_map] at hp
    cases hg : gs.toList[f]? with
    | none => rw [hg] at hp; simp at hp
    | some fd =>
      rw [hg] at hp
      simp only [Option.map_some, Option.some.injEq] at hp
      subst hp
      have hg' : gs[f]? = some fd := by simpa using hg
      refine VopRes.pure (acts_read (by rw [ho]; simp) fun a w g hr hu _ => ?_) hK
      obtain ⟨ad, e, hrep⟩ := rep_add (rep_eval hr hu hx) hd
      refine ⟨_, ?_, hrep⟩
      simp [execOp, ho, Instr.fieldAt, run_underlying h2, hg', e, Instr.sureAddr, fieldPlace, run_sizeOf' hfi, hsz]
  · exact h.elim

def vField {Y : Sy} (E : Env Y) (t : Nat) (x : D) (f : Nat) (S : Store) (nx : Nat) (K : KT) : Prop :=
  onSome (E.T t) fun ti => match ti.k, x with
  | .struct fs, .agg cs => onSome fs[f]? fun p => onSome (E.T p.2) fun fi => loadD fi (cs.drop p.1) fun d => K d S nx [] []
  | _, _ => False
theorem run_part {t : Nat} {ti : TI} (hti : E.T t = some ti) {w : World} {g : G} {vs : List Value} {cs : List D} {off : Nat} (hl : RepL w g vs cs) {K : D → Prop} (hK : loadD ti (cs.drop off) K) :
    ∃ v d, (part t vs.toArray off).run E.P w = .ok v w ∧ Rep w g v d ∧ K d := by
  unfold loadD at hK
  unfold part
  rw [Sem.run_bind, run_isAgg' hti]
  simp only [Result.andThen_ok]
  cases hagg : ti.agg with
  | true =>
    rw [hagg] at hK
    obtain ⟨hlen, hK⟩ := hK
    refine ⟨.agg ((vs.drop off).take ti.size).toArray, _, ?_, ?_, hK⟩
    · simp [run_sizeOf' hti, List.extract_eq_take_drop]
    · simp only [Rep]
      exact ⟨_, rfl, (hl.drop off).take _⟩
  | false =>
    rw [hagg] at hK
    obtain ⟨d, hd, hK⟩ := hK
    rw [List.head?_drop] at hd
    obtain ⟨x, hx, hr⟩ := hl.get hd
    exact ⟨x, d, by simp [hx], hr, hK⟩
theorem vField_ok {t : Nat} {x : Operand} {f : Nat} (ho : o.op = .field t x f) (h : vField E t (evD E.gl σ x) f S nx K) : VopRes E o σ S nx K := by
  obtain ⟨ti, hti, h⟩ := h
  have hx : x ∈ o.op.operands := by rw [ho]; simp [Op.operands]
  split at h
  · rename_i fs cs hk hev
    obtain ⟨p, hp, fi, hfi, h⟩ := h
    obtain ⟨i, desc, z, h1, h2, h3, h4, h5, h6, h7, h8, h9⟩ := ti_spec hti
    rw [hk] at h8
    obtain ⟨gs, rfl, rfl⟩ := toTK_struct h8.symm
    rw [List.getElem?_map] at hp
    cases hg : gs.toList[f]? with
    | none => rw [hg] at hp; simp at hp
    | some fd =>
      rw [hg] at hp
      simp only [Option.map_some, Option.some.injEq] at hp
      subst hp
      have hg' : gs[f]? = some fd := by simpa using hg
      obtain ⟨d, hK, hd⟩ := loadD_det h
      refine VopRes.pure (acts_read (by rw [ho]; simp) fun a w g hr hu _ => ?_) hK
      have hrep := rep_eval hr hu hx
      rw [hev] at hrep
      simp only [Rep] at hrep
      obtain ⟨vs, e, hl⟩ := hrep
      obtain ⟨v, d', hv, hd', rfl⟩ := run_part hfi hl hd
      refine ⟨v, ?_, hd'⟩
      simp [execOp, ho, Instr.field, run_underlying h2, hg', e, asAgg, hv]
  · exact h.elim

def intD : D → Option Int
  | .v (.int _ n) => some n
  | _ => none
theorem rep_int {w : World} {g : G} {v : Value} {d : D} {n : Int} (h : Rep w g v d) (hd : intD d = some n) : ∃ k, v = .int k n := by
  unfold intD at hd
  split at hd
  · cases hd; simp only [Rep] at h; exact ⟨_, h⟩
  · cases hd

def vIndexAddr {Y : Sy} (E : Env Y) (t : Nat) (x ix : D) (S : Store) (nx : Nat) (K : KT) : Prop :=
  onSome (E.T t) fun ti => onSome (intD ix) fun n => 0 ≤ n ∧ match ti.k, x with
  | .slice e, .sl es sz => onSome (E.T e) fun fe => fe.size = sz ∧ onSome es[n.toNat]? fun c => K (.ep c) S nx [] []
  | .slice e, .own l m => onSome (E.T e) fun fe => n < m ∧ K (.oel l fe.size n.toNat 0) S nx [] []
  | .array m e, x => onSome (E.T e) fun fe => n < m ∧ onSome (addD x (n.toNat * fe.size)) fun d => K d S nx [] []
  | _, _ => False
theorem vIndexAddr_ok {t : Nat} {x ix : Operand} (ho : o.op = .indexAddr t x ix) (h : vIndexAddr E t (evD E.gl σ x) (evD E.gl σ ix) S nx K) : VopRes E o σ S nx K := by
  obtain ⟨ti, hti, n, hn, h0, h⟩ := h
  have hx : x ∈ o.op.operands := by rw [ho]; simp [Op.operands]
  have hix : ix ∈ o.op.operands := by rw [ho]; simp [Op.operands]
  obtain ⟨i, desc, z, h1, h2, h3, h4, h5, h6, h7, h8, h9⟩ := ti_spec hti
  split at h
  · rename_i e es sz hk hev
    obtain ⟨fe, hfe, hsz, c, hc, hK⟩ := h
    rw [hk] at h8
    have := toTK_slice h8.symm
    subst this
    refine VopRes.pure (acts_read (by rw [ho]; simp) fun a w g hr hu _ => ?_) hK
    obtain ⟨k, hix'⟩ := rep_int (rep_eval hr hu hix) hn
    have hrep := rep_eval hr hu hx
    rw [hev] at hrep
    simp only [Rep] at hrep
    obtain ⟨ba, cp, e1, hle, hmx, hls, hE⟩ := hrep
    have hlt : n.toNat < es.length := (List.getElem?_eq_some_iff.1 hc).1
    obtain ⟨ad, rfl, hz, hre⟩ := hE (by intro hn; rw [hn] at hlt; simp at hlt)
    obtain ⟨vs, hcs, hl⟩ := hre.get hc
    refine ⟨.pointer (some (ad.add (n.toNat * sz))), ?_, ?_⟩
    · have hlt' : n < (es.length : Int) := by omega
      simp [execOp, ho, Instr.indexAt, hix', asIntOf, run_underlying h2, e1, h0, hlt', run_sizeOf' hfe, hsz]
    · simp only [Rep]
      rw [Nat.zero_add] at hcs
      exact ⟨_, vs, rfl, by rw [add_block]; exact hz, hcs, hl⟩
  · rename_i e l m hk hev
    obtain ⟨fe, hfe, hlt, hK⟩ := h
    rw [hk] at h8
    have := toTK_slice h8.symm
    subst this
    refine VopRes.pure (acts_read (by rw [ho]; simp) fun a w g hr hu _ => ?_) hK
    obtain ⟨k, hix'⟩ := rep_int (rep_eval hr hu hix) hn
    have hrep := rep_eval hr hu hx
    rw [hev] at hrep
    simp only [Rep] at hrep
    rcases hrep with ⟨b, c, hφ, _, e1⟩ | ⟨_, hm, _⟩
    · refine ⟨.pointer (some ⟨b, n.toNat * fe.size, none⟩), ?_, ?_⟩
      · simp [execOp, ho, Instr.indexAt, hix', asIntOf, run_underlying h2, e1, h0, hlt, run_sizeOf' hfe, addr_add]
      · simp only [Rep]
        exact ⟨b, c, hφ, by simp⟩
    · omega
  · rename_i m e x' hk
    obtain ⟨fe, hfe, hlt, d, hd, hK⟩ := h
    rw [hk] at h8
    have := toTK_array h8.symm
    subst this
    refine VopRes.pure (acts_read (by rw [ho]; simp) fun a w g hr hu _ => ?_) hK
    obtain ⟨k, hix'⟩ := rep_int (rep_eval hr hu hix) hn
    obtain ⟨ad, e1, hrep⟩ := rep_add (rep_eval hr hu hx) hd
    refine ⟨_, ?_, hrep⟩
    simp [execOp, ho, Instr.indexAt, hix', asIntOf, run_underlying h2, e1, Instr.sureAddr, h0, hlt, run_sizeOf' hfe]
  · exact h.elim

def vIndex {Y : Sy} (E : Env Y) (t : Nat) (x ix : D) (S : Store) (nx : Nat) (K : KT) : Prop :=
  onSome (E.T t) fun ti => onSome (intD ix) fun n => 0 ≤ n ∧ match ti.k, x with
  | .str, .s l => onSome l[n.toNat]? fun b => K (.v (.int .u8 b.toNat)) S nx [] []
  | .array m e, .agg cs => onSome (E.T e) fun fe => n < m ∧ loadD fe (cs.drop (n.toNat * fe.size)) fun d => K d S nx [] []
  | _, _ => False
theorem vIndex_ok {t : Nat} {x ix : Operand} (ho : o.op = .index t x ix) (h : vIndex E t (evD E.gl σ x) (evD E.gl σ ix) S nx K) : VopRes E o σ S nx K := by
  obtain ⟨ti, hti, n, hn, h0, h⟩ := h
  have hx : x ∈ o.op.operands := by rw [ho]; simp [Op.operands]
  have hix : ix ∈ o.op.operands := by rw [ho]; simp [Op.operands]
  obtain ⟨i, desc, z, h1, h2, h3, h4, h5, h6, h7, h8, h9⟩ := ti_spec hti
  split at h
  · rename_i l hk hev
    obtain ⟨b, hb, hK⟩ := h
    rw [hk] at h8
    have := toTK_str h8.symm
    subst this
    refine VopRes.pure (acts_read (by rw [ho]; simp) fun a w g hr hu _ => ⟨.int .u8 b.toNat, ?_, by simp [Rep]⟩) hK
    obtain ⟨k, hix'⟩ := rep_int (rep_eval hr hu hix) hn
    have hrep := rep_eval hr hu hx
    rw [hev] at hrep
    simp only [Rep] at hrep
    have hlt : n.toNat < l.length := (List.getElem?_eq_some_iff.1 hb).1
    have hget : (⟨⟨l⟩⟩ : ByteArray)[n.toNat]? = some b := by
      rw [getElem?_pos (⟨⟨l⟩⟩ : ByteArray) n.toNat hlt]
      exact congrArg some (List.getElem?_eq_some_iff.1 hb).2
    simp [execOp, ho, Instr.index, hix', asIntOf, run_underlying h2, hrep, h0, hget]
  · rename_i m e cs hk hev
    obtain ⟨fe, hfe, hlt, h⟩ := h
    rw [hk] at h8
    have := toTK_array h8.symm
    subst this
    obtain ⟨d, hK, hd⟩ := loadD_det h
    refine VopRes.pure (acts_read (by rw [ho]; simp) fun a w g hr hu _ => ?_) hK
    obtain ⟨k, hix'⟩ := rep_int (rep_eval hr hu hix) hn
    have hrep := rep_eval hr hu hx
    rw [hev] at hrep
    simp only [Rep] at hrep
    obtain ⟨vs, e1, hl⟩ := hrep
    obtain ⟨v, d', hv, hd', rfl⟩ := run_part hfe hl hd
    refine ⟨v, ?_, hd'⟩
    simp [execOp, ho, Instr.index, hix', asIntOf, run_underlying h2, e1, h0, hlt, run_sizeOf' hfe, hv]
  · exact h.elim
end ops
end Go.Abs
namespace Go.Abs
open Go

section ops
variable {Y : Sy} {E : Env Y} {o : Oper} {σ : List (Nat × D)} {S : Store} {nx : Nat} {K : KT}

/-! ### Stores -/
theorem repL_over {w : World} {g : G} {vs nv : List Value} {cs new : List D} {off : Nat} (h : RepL w g vs cs) (hn : RepL w g nv new) :
    RepL w g (vs.take off ++ nv ++ vs.drop (off + nv.length)) (overD cs off new) := by
  unfold overD
  rw [hn.length]
  exact ((h.take _).append hn).append (h.drop _)

def vStore {Y : Sy} (E : Env Y) (t : Nat) (x v : D) (S : Store) (nx : Nat) (K : KT) : Prop :=
  onSome (E.T t) fun ti => onSome (cellsD v) fun new => new.length = ti.size ∧ new.all oneD = true ∧ match x with
  | .ref l off => onSome (look S l) fun ob => match ob with
    | .box cs => off + new.length ≤ cs.length ∧ K .any (putS S l (.box (overD cs off new))) nx [l] [l]
    | _ => False
  | .oel l size i j => onSome (look S l) fun ob => match ob with
    | .row ty sz es => size = sz ∧ onSome es[i]? fun e => j + new.length ≤ e.length ∧ K .any (putS S l (.row ty sz (es.set i (overD e j new)))) nx [l] [l]
    | _ => False
  | _ => False

theorem run_storeVar' {t : Nat} {ti : TI} (hti : E.T t = some ti) {w : World} {b off : Nat} {ty : TypeId} {cur : Array Value} {v : Value} (hsz : v.cells.toList.length = ti.size)
    (hh : w.heap[b]? = some (.cells cur ty (0, 0))) (hfit : off + v.cells.toList.length ≤ cur.size) (h1 : ∀ u ∈ v.cells.toList, u.oneCell' = true) :
    (storeVar t ⟨b, off, none⟩ v).run E.P w = .ok () (w.setRow b (cur.toList.take off ++ v.cells.toList ++ cur.toList.drop (off + v.cells.toList.length)).toArray) := by
  have hst := run_storeCells_at E.P b off ty v.cells.toList 0 cur w hh (by simpa using hfit) h1
  simp only [Nat.add_zero] at hst
  have hsz' : v.cells.size = ti.size := by simpa using hsz
  simp [storeVar, run_sizeOf' hti, hsz', hst]

theorem over_len {vs nv : List Value} {off : Nat} (h : off + nv.length ≤ vs.length) : (vs.take off ++ nv ++ vs.drop (off + nv.length)).length = vs.length := by
  simp; omega

theorem over_get {α : Type} {A nv : List α} {p k : Nat} (h : p + nv.length ≤ A.length) :
    (A.take p ++ nv ++ A.drop (p + nv.length))[k]? = if k < p then A[k]? else if k < p + nv.length then nv[k - p]? else A[k]? := by
  rw [List.append_assoc]
  split
  · rw [List.getElem?_append_left (by simp; omega), List.getElem?_take, if_pos ‹_›]
  · rw [List.getElem?_append_right (by simp; omega), List.length_take, Nat.min_eq_left (by omega)]
    split
    · rw [List.getElem?_append_left (by omega)]
    · rw [List.getElem?_append_right (by omega), List.getElem?_drop]
      congr 1
      omega

theorem vStore_ok {t : Nat} {x v : Operand} (ho : o.op = .store t x v) (h : vStore E t (evD E.gl σ x) (evD E.gl σ v) S nx K) : VopRes E o σ S nx K := by
  obtain ⟨ti, hti, new, hnew, hlen, hone, h⟩ := h
  have hdef : ∀ c, o.op ≠ .defer c := by rw [ho]; simp
  have hx : x ∈ o.op.operands := by rw [ho]; simp [Op.operands]
  have hv : v ∈ o.op.operands := by rw [ho]; simp [Op.operands]
  cases hev : evD E.gl σ x <;> rw [hev] at h <;> simp only at h
  case ref l off =>
    obtain ⟨ob, hob, h⟩ := h
    cases ob <;> simp only at h
    case box cs =>
      obtain ⟨hfit, hK⟩ := h
      refine VopRes.write hob (acts_of hdef fun a w g hr hu hs _ => ?_) hK
      have hrep := rep_eval hr hu hx
      rw [hev] at hrep
      simp only [Rep] at hrep
      obtain ⟨b, c, hφ, e1⟩ := hrep
      obtain ⟨b', c', arr, ty, hφ', hh, hl⟩ := box_of hs
      rw [hφ] at hφ'
      cases hφ'
      have hcv := rep_cells (rep_eval hr hu hv) hnew
      have hst := run_storeVar' hti (v := a.eval v) (off := off) (hcv.length.trans hlen) hh (by rw [hcv.length]; have := hl.length; simp at this; omega) (repL_one hcv hone)
      have hrun : (execOp a.eval o).run E.P w = .ok .skip (w.setRow b (arr.toList.take off ++ (a.eval v).cells.toList ++ arr.toList.drop (off + (a.eval v).cells.toList.length)).toArray) := by
        revert hst
        generalize (arr.toList.take off ++ (a.eval v).cells.toList ++ arr.toList.drop (off + (a.eval v).cells.toList.length)).toArray = L
        intro hst
        simp [execOp, ho, Instr.storeAt, e1, Instr.sureAddr, hst]
      refine ⟨undef, w.setRow b (arr.toList.take off ++ (a.eval v).cells.toList ++ arr.toList.drop (off + (a.eval v).cells.toList.length)).toArray, g, .inr ⟨hrun, rfl⟩, move_write hr hs hφ rfl rfl rfl (by simp [World.setRow]) (fun k hk => setRow_other w b k _ hk) ?_, by simp [Rep]⟩
      · refine ⟨b, _, ty, rfl, setRow_heap w b arr _ ty (0, 0) hh, ?_⟩
        have tr : Tr (fun k => k = b) w g (w.setRow b (arr.toList.take off ++ (a.eval v).cells.toList ++ arr.toList.drop (off + (a.eval v).cells.toList.length)).toArray) g :=
          ⟨rfl, rfl, rfl, by simp [World.setRow], fun k _ hk => setRow_other w b k _ hk, fun _ h => h, fun _ h _ _ => h, fun _ _ h => h, fun l b c h1 h2 => by rw [h1] at h2; cases h2⟩
        have hz : ∀ k, g.Z k → ¬ k = b := by
          intro k hk e
          subst e
          exact hs.own_z k hk ⟨l, c, by simp [look], hφ⟩
        exact (repL_over hl hcv).tr tr hr.wf hz
  case oel l size i j =>
    obtain ⟨ob, hob, h⟩ := h
    cases ob <;> simp only at h
    case row ty sz es =>
      obtain ⟨rfl, e, he, hfit, hK⟩ := h
      refine VopRes.write hob (acts_of hdef fun a w g hr hu hs _ => ?_) hK
      have hrep := rep_eval hr hu hx
      rw [hev] at hrep
      simp only [Rep] at hrep
      obtain ⟨b, c, hφ, e1⟩ := hrep
      obtain ⟨p, hφ', hor⟩ := obj_of hs
      rw [hφ] at hφ'
      cases hφ'
      rcases hor with ⟨h2, _⟩ | ⟨b', arr, h2, hh, hcap, hmx, hsz, hls, hre⟩
      · cases h2
      · cases h2
        have hcv := rep_cells (rep_eval hr hu hv) hnew
        have hi : i < es.length := (List.getElem?_eq_some_iff.1 he).1
        have hel : e.length = size := hls e (List.mem_of_getElem? he)
        have hsz' : (i + 1) * size ≤ arr.size := by rw [hsz]; exact Nat.mul_le_mul_right _ (by simp only at hcap; omega)
        rw [Nat.add_mul, Nat.one_mul] at hsz'
        have hfit' : i * size + j + (a.eval v).cells.toList.length ≤ arr.size := by rw [hcv.length]; omega
        have hst := run_storeVar' hti (v := a.eval v) (off := i * size + j) (hcv.length.trans hlen) hh hfit' (repL_one hcv hone)
        have tr : Tr (fun k => k = b) w g (w.setRow b (arr.toList.take (i * size + j) ++ (a.eval v).cells.toList ++ arr.toList.drop (i * size + j + (a.eval v).cells.toList.length)).toArray) g :=
          ⟨rfl, rfl, rfl, by simp [World.setRow], fun k _ hk => setRow_other w b k _ hk, fun _ h => h, fun _ h _ _ => h, fun _ _ h => h, fun l b c h1 h2 => by rw [h1] at h2; cases h2⟩
        have hz : ∀ k, g.Z k → ¬ k = b := by
          intro k hk e
          subst e
          exact hs.own_z k hk ⟨l, c, by simp [look], hφ⟩
        have hb' := setRow_heap w b arr (arr.toList.take (i * size + j) ++ (a.eval v).cells.toList ++ arr.toList.drop (i * size + j + (a.eval v).cells.toList.length)).toArray ty (0, 0) hh
        have hrun : (execOp a.eval o).run E.P w = .ok .skip (w.setRow b (arr.toList.take (i * size + j) ++ (a.eval v).cells.toList ++ arr.toList.drop (i * size + j + (a.eval v).cells.toList.length)).toArray) := by
          revert hst
          generalize (arr.toList.take (i * size + j) ++ (a.eval v).cells.toList ++ arr.toList.drop (i * size + j + (a.eval v).cells.toList.length)).toArray = L
          intro hst
          simp [execOp, ho, Instr.storeAt, e1, Instr.sureAddr, hst]
        refine ⟨undef, w.setRow b (arr.toList.take (i * size + j) ++ (a.eval v).cells.toList ++ arr.toList.drop (i * size + j + (a.eval v).cells.toList.length)).toArray, g, .inr ⟨hrun, rfl⟩, move_write hr hs hφ rfl rfl rfl (by simp [World.setRow]) (fun k hk => setRow_other w b k _ hk) ?_, by simp [Rep]⟩
        · refine .inr ⟨b, _, rfl, hb', by simpa using hcap, hmx, ?_, ?_, ?_⟩
          · rw [← hsz]
            simp only [List.size_toArray]
            rw [over_len (by simpa using hfit')]
            simp
          · intro e' he'
            rcases List.mem_or_eq_of_mem_set he' with h3 | rfl
            · exact hls e' h3
            · unfold overD
              simp; omega
          · refine RepE.of_get fun k e' he' => ?_
            rw [Nat.zero_add]
            rw [List.getElem?_set] at he'
            split at he'
            · rename_i hik
              subst hik
              first | rw [if_pos hi] at he' | skip
              · cases he'
                obtain ⟨vs, hc, hl⟩ := hre.get he
                rw [Nat.zero_add] at hc
                refine ⟨vs.take j ++ (a.eval v).cells.toList ++ vs.drop (j + (a.eval v).cells.toList.length), ?_, (repL_over hl hcv).tr tr hr.wf hz⟩
                intro m u hu
                rw [addr_add, Nat.zero_add, addr_add]
                rw [cell_of_row _ b (i * size + m) _ ty (0, 0) hb']
                have hvl : vs.length = size := hl.length.trans hel
                have hm : m < size := by
                  have := (List.getElem?_eq_some_iff.1 hu).1
                  rw [over_len (by rw [hvl, hcv.length]; omega), hvl] at this
                  exact this
                have hcell : ∀ q, q < size → arr[i * size + q]? = vs[q]? := by
                  intro q hq
                  have := hc q (vs[q]'(by omega)) (by simp)
                  rw [addr_add, Nat.zero_add, addr_add, cell_of_row w b (i * size + q) arr ty (0, 0) hh] at this
                  rw [this]
                  simp
                simp only [List.getElem?_toArray]
                rw [← hu, over_get (by simpa using hfit'), over_get (by rw [hvl, hcv.length]; omega)]
                have hq := hcell m hm
                simp only [Array.getElem?_toList]
                by_cases h3 : m < j
                · rw [if_pos (by omega), if_pos h3]; exact hq
                · rw [if_neg (by omega), if_neg h3]
                  by_cases h4 : m < j + (a.eval v).cells.toList.length
                  · rw [if_pos (by omega), if_pos h4]
                    congr 1
                    omega
                  · rw [if_neg (by omega), if_neg h4]; exact hq
            · rename_i hik
              obtain ⟨vs, hc, hl⟩ := hre.get he'
              rw [Nat.zero_add] at hc
              refine ⟨vs, ?_, hl.tr tr hr.wf hz⟩
              intro m u hu
              have := hc m u hu
              rw [addr_add, Nat.zero_add, addr_add] at this ⊢
              rw [cell_of_row _ b (k * size + m) _ ty (0, 0) hb']
              rw [cell_of_row w b (k * size + m) arr ty (0, 0) hh] at this
              rw [← this]
              have hkl : k < es.length := (List.getElem?_eq_some_iff.1 he').1
              have hel' : e'.length = size := hls e' (List.mem_of_getElem? he')
              have hm : m < size := by
                have := (List.getElem?_eq_some_iff.1 hu).1
                rw [hl.length, hel'] at this
                exact this
              simp only [List.getElem?_toArray]
              rw [over_get (by simpa using hfit')]
              simp only [Array.getElem?_toList]
              rcases Nat.lt_or_gt_of_ne hik with h3 | h3
              · have h5 : i * size + size ≤ k * size := by
                  have := Nat.mul_le_mul_right size (show i + 1 ≤ k from h3)
                  rwa [Nat.add_mul, Nat.one_mul] at this
                rw [if_neg (by omega), if_neg (by rw [hcv.length]; omega)]
              · have h5 : k * size + size ≤ i * size := by
                  have := Nat.mul_le_mul_right size (show k + 1 ≤ i from h3)
                  rwa [Nat.add_mul, Nat.one_mul] at this
                rw [if_pos (by omega)]
end ops
end Go.Abs
namespace Go.Abs
open Go

section ops
variable {Y : Sy} {E : Env Y} {o : Oper} {σ : List (Nat × D)} {S : Store} {nx : Nat} {K : KT}

/-! ### Literals -/
theorem foldl_set (off : Nat) : ∀ (vs : List Value) (k : Nat) (cur : Array Value), off + k + vs.length ≤ cur.size →
    ((vs.zipIdx k).foldl (fun cs (p : Value × Nat) => cs.setIfInBounds (off + p.2) p.1) cur).toList = cur.toList.take (off + k) ++ vs ++ cur.toList.drop (off + k + vs.length)
  | [], k, cur, _ => by simp
  | v :: r, k, cur, h => by
    simp only [List.length_cons] at h
    simp only [List.zipIdx_cons, List.foldl_cons]
    rw [show k + 1 = k + 1 from rfl, foldl_set off r (k + 1) _ (by simp; omega)]
    apply List.ext_getElem?
    intro i
    have hsz : cur.toList.length = cur.size := by simp
    rw [show off + (k + 1) = off + k + 1 by omega]
    have e1 := over_get (A := (cur.setIfInBounds (off + k) v).toList) (nv := r) (p := off + k + 1) (k := i) (by simp; omega)
    have e2 := over_get (A := cur.toList) (nv := v :: r) (p := off + k) (k := i) (by simp; omega)
    simp only [List.length_cons] at e2 ⊢
    rw [e1, e2]
    simp only [Array.toList_setIfInBounds]
    by_cases h1 : i < off + k
    · rw [if_pos (by omega), if_pos h1, List.getElem?_set_ne (by omega)]
    · rw [if_neg h1]
      by_cases h2 : i = off + k
      · subst h2
        rw [if_pos (by omega), if_pos (by omega), List.getElem?_set_self (by omega)]
        simp
      · rw [if_neg (by omega)]
        by_cases h3 : i < off + k + 1 + r.length
        · rw [if_pos h3, if_pos (by omega)]
          rw [show i - (off + k) = (i - (off + k + 1)) + 1 by omega]
          simp
        · rw [if_neg h3, if_neg (by omega), List.getElem?_set_ne (by omega)]

theorem fill_one {cells : Array Value} {v : Value} {off : Nat} (h : off + v.cells.size ≤ cells.size) :
    (v.cells.zipIdx.foldl (fun cs (c, j) => cs.setIfInBounds (off + j) c) cells).toList = cells.toList.take off ++ v.cells.toList ++ cells.toList.drop (off + v.cells.toList.length) := by
  have := foldl_set off v.cells.toList 0 cells (by simpa using h)
  simp only [Nat.add_zero] at this
  rw [← this, ← Array.foldl_toList]
  congr 1
  rw [Array.toList_zipIdx]

def fillD (pl : Nat → Option (Nat × Nat)) : List (Nat × D) → List D → (List D → Prop) → Prop
  | [], cs, K => K cs
  | (i, d) :: r, cs, K => onSome (pl i) fun p => onSome (cellsD d) fun new => new.length = p.2 ∧ p.1 + new.length ≤ cs.length ∧ fillD pl r (overD cs p.1 new) K

theorem fillD_det {pl : Nat → Option (Nat × Nat)} : ∀ {parts : List (Nat × D)} {cs : List D} {K : List D → Prop}, fillD pl parts cs K → ∃ cs', K cs' ∧ fillD pl parts cs (· = cs')
  | [], cs, K, h => ⟨cs, h, rfl⟩
  | (i, d) :: r, cs, K, h => by
    obtain ⟨p, hp, new, hn, h1, h2, h3⟩ := h
    obtain ⟨cs', hK, h4⟩ := fillD_det h3
    exact ⟨cs', hK, p, hp, new, hn, h1, h2, h4⟩

theorem fill_ok {pl : Nat → Option (Nat × Nat)} {w : World} {g : G} : ∀ {parts : List (Nat × D)} {pv : List (Nat × Value)} {cs cs' : List D} {arr : Array Value},
    fillD pl parts cs (· = cs') → (pv.map (·.1) = parts.map (·.1)) → RepL w g (pv.map (·.2)) (parts.map (·.2)) → RepL w g arr.toList cs → ∃ arr', Instr.fill pl arr pv = some arr' ∧ RepL w g arr'.toList cs'
  | [], [], cs, cs', arr, h, _, _, hl => by cases h; exact ⟨arr, rfl, hl⟩
  | [], _ :: _, _, _, _, _, h, _, _ => by simp at h
  | _ :: _, [], _, _, _, _, h, _, _ => by simp at h
  | (i, d) :: r, (i', v) :: pr, cs, cs', arr, h, hk, hr, hl => by
    obtain ⟨p, hp, new, hn, h1, h2, h3⟩ := h
    simp only [List.map_cons, List.cons.injEq] at hk
    obtain ⟨rfl, hk⟩ := hk
    simp only [List.map_cons, RepL] at hr
    have hc := rep_cells hr.1 hn
    have hvs : v.cells.size = p.2 := by have := hc.length; simp at this; omega
    have hal := hl.length
    simp only [Array.length_toList] at hal
    have hfit : p.1 + v.cells.size ≤ arr.size := by omega
    have harr := fill_one hfit
    have hl' : RepL w g (v.cells.zipIdx.foldl (fun cs (c, j) => cs.setIfInBounds (p.1 + j) c) arr).toList (overD cs p.1 new) := by
      rw [harr]; exact repL_over hl hc
    obtain ⟨arr', ha, hb⟩ := fill_ok h3 hk hr.2 hl'
    refine ⟨arr', ?_, hb⟩
    simp only [Instr.fill, hp, hvs]
    rw [if_neg (by simp; omega)]
    exact ha

def placesD {Y : Sy} (E : Env Y) : List (Nat × Nat) → Option (List (Nat × Nat))
  | [] => some []
  | (off, ty) :: r => match E.T ty, placesD E r with
    | some ti, some l => some ((off, ti.size) :: l)
    | _, _ => none
theorem run_places {fs : List Field} {l : List (Nat × Nat)} (h : placesD E (fs.map fun f => (f.offset, f.type)) = some l) (w : World) :
    (fs.mapM fun f => (do pure (f.offset, ← sizeOf f.type) : Sem (Nat × Nat))).run E.P w = .ok l w := by
  induction fs generalizing l with
  | nil => simp [placesD] at h; subst h; simp
  | cons f r ih =>
    simp only [List.map_cons, placesD] at h
    split at h
    · rename_i ti l' h1 h2
      cases h
      simp only [List.mapM_cons, Sem.run_bind, run_sizeOf' h1, Result.andThen_ok, Sem.run_pure, ih h2]
    · cases h

def partsD (parts : List (Nat × Operand)) (ev : Operand → D) : List (Nat × D) := parts.map fun p => (p.1, ev p.2)

def vBuild {Y : Sy} (E : Env Y) (t : Nat) (parts : List (Nat × D)) (S : Store) (nx : Nat) (K : KT) : Prop :=
  onSome (E.T t) fun ti => match ti.k with
  | .struct fs => onSome (placesD E fs) fun pl => fillD (pl[·]?) parts ti.zero fun cs => K (.agg cs) S nx [] []
  | .array _ e => onSome (E.T e) fun fe => fillD (fun i => some (i * fe.size, fe.size)) parts ti.zero fun cs => K (.agg cs) S nx [] []
  | _ => False

theorem parts_rep {a : Act} {w : World} {g : G} {parts : Array (Nat × Operand)} (hr : Reach E w g) (hu : ∀ x ∈ useOf o σ, Rep w g (a.tmps.getD x.1 undef) x.2) (hm : ∀ p ∈ parts.toList, p.2 ∈ o.op.operands) :
    ((parts.map fun (i, x) => (i, a.eval x)).toList.map (·.1) = (partsD parts.toList (evD E.gl σ)).map (·.1)) ∧
    RepL w g ((parts.map fun (i, x) => (i, a.eval x)).toList.map (·.2)) ((partsD parts.toList (evD E.gl σ)).map (·.2)) := by
  constructor
  · simp [partsD]
  · simp only [Array.toList_map, List.map_map, partsD]
    have := repL_map (a := a) hr hu (parts.toList.map (·.2)) (fun x hx => by
      obtain ⟨p, hp, rfl⟩ := List.mem_map.1 hx
      exact hm p hp)
    simpa [Function.comp_def] using this

theorem vBuild_ok {t : Nat} {parts : Array (Nat × Operand)} (ho : o.op = .build t parts) (h : vBuild E t (partsD parts.toList (evD E.gl σ)) S nx K) : VopRes E o σ S nx K := by
  obtain ⟨ti, hti, h⟩ := h
  obtain ⟨i, desc, z, h1, h2, h3, h4, h5, h6, h7, h8, h9⟩ := ti_spec hti
  have hm : ∀ p ∈ parts.toList, p.2 ∈ o.op.operands := by
    intro p hp; rw [ho]; simp only [Op.operands]; simp; exact ⟨p.1, by simpa using hp⟩
  split at h
  · rename_i fs hk
    obtain ⟨pl, hpl, h⟩ := h
    obtain ⟨cs', hK, h⟩ := fillD_det h
    rw [hk] at h8
    obtain ⟨gs, rfl, rfl⟩ := toTK_struct h8.symm
    refine VopRes.pure (acts_read (by rw [ho]; simp) fun a w g hr hu _ => ?_) hK
    obtain ⟨z', hz', hzl⟩ := run_zeroValue' hti w g
    obtain ⟨hp1, hp2⟩ := parts_rep (a := a) (parts := parts) hr hu hm
    obtain ⟨arr', hf, hl⟩ := fill_ok h hp1 hp2 hzl
    refine ⟨.agg arr', ?_, by simp only [Rep]; exact ⟨arr'.toList, by simp, hl⟩⟩
    have hpm := run_places hpl w
    have hpm' : (gs.mapM fun f => (do pure (f.offset, ← sizeOf f.type) : Sem (Nat × Nat))).run E.P w = .ok pl.toArray w := by
      rw [Array.mapM_eq_mapM_toList, Sem.run_map, hpm]
      rfl
    simp only [bind_pure_comp] at hpm'
    clear hp1 hp2
    generalize hpv : (parts.map fun (i, x) => (i, a.eval x)) = pv at hf
    have hb : (Instr.build t pv).run E.P w = .ok (.agg arr') w := by
      simp [Instr.build, hz', run_underlying h2, hpm', hf]
    simp only [execOp, ho, hpv]
    simp [hb]
  · rename_i n e hk
    obtain ⟨fe, hfe, h⟩ := h
    obtain ⟨cs', hK, h⟩ := fillD_det h
    rw [hk] at h8
    have := toTK_array h8.symm
    subst this
    refine VopRes.pure (acts_read (by rw [ho]; simp) fun a w g hr hu _ => ?_) hK
    obtain ⟨z', hz', hzl⟩ := run_zeroValue' hti w g
    obtain ⟨hp1, hp2⟩ := parts_rep (a := a) (parts := parts) hr hu hm
    obtain ⟨arr', hf, hl⟩ := fill_ok h hp1 hp2 hzl
    refine ⟨.agg arr', ?_, by simp only [Rep]; exact ⟨arr'.toList, by simp, hl⟩⟩
    clear hp1 hp2
    generalize hpv : (parts.map fun (i, x) => (i, a.eval x)) = pv at hf
    have hb : (Instr.build t pv).run E.P w = .ok (.agg arr') w := by
      simp [Instr.build, hz', run_underlying h2, run_sizeOf' hfe, hf]
    simp only [execOp, ho, hpv]
    simp [hb]
  · exact h.elim

/-! ### Rows -/
theorem repE_of_flat {w : World} {g : G} {b : Nat} {size : Nat} : ∀ {es : List (List D)} {vs : List Value} {k : Nat}, cellsAt w ⟨b, k * size, none⟩ vs → (∀ e ∈ es, e.length = size) → RepL w g vs es.flatten → RepE w g ⟨b, 0, none⟩ size k es
  | [], _, _, _, _, _ => by simp [RepE]
  | e :: r, vs, k, hc, hs, hl => by
    simp only [List.flatten_cons] at hl
    obtain ⟨x1, x2, rfl, h1, h2⟩ := hl.split
    have hlen : x1.length = size := h1.length.trans (hs e (by simp))
    simp only [RepE]
    refine ⟨⟨x1, ?_, h1⟩, ?_⟩
    · rw [addr_add, Nat.zero_add]
      have := hc.take x1.length
      simpa using this
    · refine repE_of_flat (vs := x2) ?_ (fun e' he' => hs e' (by simp [he'])) h2
      have := hc.drop x1.length
      rw [addr_add] at this
      rw [Nat.add_mul, Nat.one_mul]
      rw [hlen] at this
      have e3 : (x1 ++ x2).drop size = x2 := by rw [← hlen]; simp
      rwa [e3] at this

theorem made_flat (z : Array Value) (n : Nat) : ((Array.range (n * z.size)).map (z[· % z.size]!)).toList = (List.replicate n z.toList).flatten := by
  induction n with
  | zero => simp
  | succ n ih =>
    simp only [Array.toList_map, Array.toList_range] at ih ⊢
    rw [Nat.add_mul, Nat.one_mul, List.range_add, List.map_append, ih, List.replicate_succ', List.flatten_append]
    congr 1
    simp only [List.map_map, List.flatten_cons, List.flatten_nil, List.append_nil]
    apply List.ext_getElem?
    intro i
    simp only [List.getElem?_map]
    by_cases hi : i < z.size
    · simp [hi, Nat.add_mod, Nat.mod_eq_of_lt hi]
    · simp [hi]

theorem repL_flatten {w : World} {g : G} {vs : List Value} {cs : List D} (h : RepL w g vs cs) : ∀ n, RepL w g (List.replicate n vs).flatten (List.replicate n cs).flatten
  | 0 => by simp [RepL]
  | n + 1 => by
    simp only [List.replicate_succ, List.flatten_cons]
    exact h.append (repL_flatten h n)

theorem flatten_len {size : Nat} : ∀ {es : List (List D)}, (∀ e ∈ es, e.length = size) → es.flatten.length = es.length * size
  | [], _ => by simp
  | e :: r, h => by
    simp only [List.flatten_cons, List.length_append, List.length_cons]
    rw [h e (by simp), flatten_len fun e' he' => h e' (by simp [he'])]
    rw [Nat.add_mul]; omega

theorem flatten_set {size : Nat} {new : List D} (hn : new.length = size) : ∀ {es : List (List D)} {i : Nat}, (∀ e ∈ es, e.length = size) → i < es.length → (es.set i new).flatten = overD es.flatten (i * size) new
  | [], _, _, h => by simp at h
  | e :: r, 0, h, _ => by
    have he := h e (by simp)
    simp [overD, hn, ← he]
  | e :: r, i + 1, h, hi => by
    have he := h e (by simp)
    simp only [List.set_cons_succ, List.flatten_cons]
    rw [flatten_set hn (fun e' he' => h e' (by simp [he'])) (by simpa using hi)]
    unfold overD
    rw [show (i + 1) * size = e.length + i * size by rw [Nat.add_mul, he]; omega]
    have t1 : (e ++ r.flatten).take (e.length + i * size) = e ++ r.flatten.take (i * size) := by
      rw [List.take_append, List.take_of_length_le (show e.length ≤ e.length + i * size by omega)]
      congr 2
      omega
    have t2 : (e ++ r.flatten).drop (e.length + i * size + new.length) = r.flatten.drop (i * size + new.length) := by
      rw [List.drop_append, List.drop_eq_nil_of_le (show e.length ≤ e.length + i * size + new.length by omega), List.nil_append]
      congr 1
      omega
    rw [t1, t2]
    simp

def fillE (size : Nat) : List (Nat × D) → List (List D) → (List (List D) → Prop) → Prop
  | [], es, K => K es
  | (i, d) :: r, es, K => onSome (cellsD d) fun new => new.length = size ∧ i < es.length ∧ fillE size r (es.set i new) K
theorem fillE_fillD {size : Nat} : ∀ {parts : List (Nat × D)} {es es' : List (List D)}, (∀ e ∈ es, e.length = size) → fillE size parts es (· = es') →
    fillD (fun i => some (i * size, size)) parts es.flatten (· = es'.flatten) ∧ (∀ e ∈ es', e.length = size) ∧ es'.length = es.length
  | [], es, es', h, hf => by cases hf; exact ⟨rfl, h, rfl⟩
  | (i, d) :: r, es, es', h, hf => by
    obtain ⟨new, hn, h1, h2, h3⟩ := hf
    have hs : ∀ e ∈ es.set i new, e.length = size := by
      intro e he
      rcases List.mem_or_eq_of_mem_set he with h4 | rfl
      · exact h e h4
      · exact h1
    obtain ⟨h4, h5, h6⟩ := fillE_fillD hs h3
    refine ⟨⟨_, rfl, new, hn, h1, ?_, ?_⟩, h5, by simpa using h6⟩
    · simp only
      rw [flatten_len h, h1]
      have := Nat.mul_le_mul_right size (show i + 1 ≤ es.length from h2)
      rwa [Nat.add_mul, Nat.one_mul] at this
    · simp only
      rw [← flatten_set h1 h h2]
      exact h4
theorem fillE_det {size : Nat} : ∀ {parts : List (Nat × D)} {es : List (List D)} {K : List (List D) → Prop}, fillE size parts es K → ∃ es', K es' ∧ fillE size parts es (· = es')
  | [], es, K, h => ⟨es, h, rfl⟩
  | (i, d) :: r, es, K, h => by
    obtain ⟨new, hn, h1, h2, h3⟩ := h
    obtain ⟨es', hK, h4⟩ := fillE_det h3
    exact ⟨es', hK, new, hn, h1, h2, h4⟩

def allFree : List (List D) → Prop
  | [] => True
  | e :: r => freeL e = true ∧ allFree r
theorem allFree_ok : ∀ {es : List (List D)}, allFree es → ∀ e ∈ es, freeL e = true
  | [], _, e, he => by simp at he
  | e0 :: r, h, e, he => by
    rcases List.mem_cons.1 he with rfl | he
    · exact h.1
    · exact allFree_ok h.2 e he
/-- A new row: frozen, or the call's own. -/
def vRow (fz : Bool) (e : TypeId) (size : Nat) (es : List (List D)) (S : Store) (nx : Nat) (K : KT) : Prop :=
  bif fz then allFree es ∧ K (.sl es size) S nx [] [] else K (.own nx es.length) (putS S nx (.row e size es)) (nx + 1) [] [nx]
theorem vRow_ok {fz : Bool} {e : TypeId} {size : Nat} {es : List (List D)} (hdef : ∀ c, o.op ≠ .defer c) (hls : ∀ x ∈ es, x.length = size) (hmx : es.length ≤ maxLen)
    (hrun : ∀ (a : Act) w g, Reach E w g → (∀ x ∈ useOf o σ, Rep w g (a.tmps.getD x.1 undef) x.2) → ∃ arr : Array Value, (execOp a.eval o).run E.P w = .ok (.value (.slice (some ⟨w.heap.size, 0, none⟩) es.length es.length)) (w.alloc (.cells arr e)) ∧ RepL w g arr.toList es.flatten)
    (h : vRow fz e size es S nx K) : VopRes E o σ S nx K := by
  have hE : ∀ (w : World) (g g' : G) (arr : Array Value), RepL (w.alloc (.cells arr e)) g' arr.toList es.flatten → RepE (w.alloc (.cells arr e)) g' ⟨w.heap.size, 0, none⟩ size 0 es := by
    intro w g g' arr hl
    refine repE_of_flat ?_ hls hl
    rw [Nat.zero_mul]
    exact cellsAt_new w arr e
  cases fz with
  | true =>
    obtain ⟨hfr, h⟩ := h
    replace hfr := allFree_ok hfr
    refine VopRes.pure (acts_of hdef fun a w g hr hu _ _ => ?_) h
    obtain ⟨arr, h1, h2⟩ := hrun a w g hr hu
    refine ⟨_, _, _, .inl h1, move_alloc_frozen hr _, ?_⟩
    simp only [Rep]
    exact ⟨_, _, rfl, Nat.le_refl _, hmx, hls, fun _ => ⟨_, rfl, .inr rfl, (hE w g _ arr (h2.tr (tr_alloc_frz _) hr.wf (fun _ _ h => h))).toCl hfr⟩⟩
  | false =>
    refine VopRes.new (acts_of hdef fun a w g hr hu _ hf => ?_) h
    obtain ⟨arr, h1, h2⟩ := hrun a w g hr hu
    have hφ : g.φ nx = none := hf nx (by simp [look]) (by simp [look])
    refine ⟨_, _, _, .inl h1, move_alloc_named hr hφ _ es.length ?_, ?_⟩
    · refine .inr ⟨_, arr, rfl, heap_alloc_new w _, Nat.le_refl _, hmx, ?_, hls, hE w g _ arr (h2.tr (tr_alloc_named hφ _ _) hr.wf (fun _ _ h => h))⟩
      have := h2.length
      rw [flatten_len hls] at this
      simpa using this
    · simp only [Rep]
      exact .inl ⟨_, _, by simp [named], Nat.le_refl _, rfl⟩

def vBuildSlice {Y : Sy} (E : Env Y) (fz : Bool) (t len : Nat) (parts : List (Nat × D)) (S : Store) (nx : Nat) (K : KT) : Prop :=
  onSome (E.T t) fun ti => match ti.k with
  | .slice e => onSome (E.T e) fun fe => len * fe.size ≤ 16777216 ∧ len ≤ 16777216 ∧ fe.zero.length = fe.size ∧ fillE fe.size parts (List.replicate len fe.zero) fun es => vRow fz e fe.size es S nx K
  | _ => False

theorem vBuildSlice_ok {fz : Bool} {t len : Nat} {parts : Array (Nat × Operand)} (ho : o.op = .buildSlice t len parts) (h : vBuildSlice E fz t len (partsD parts.toList (evD E.gl σ)) S nx K) : VopRes E o σ S nx K := by
  obtain ⟨ti, hti, h⟩ := h
  obtain ⟨i, desc, z, h1, h2, h3, h4, h5, h6, h7, h8, h9⟩ := ti_spec hti
  have hm : ∀ p ∈ parts.toList, p.2 ∈ o.op.operands := by
    intro p hp; rw [ho]; simp only [Op.operands]; simp; exact ⟨p.1, by simpa using hp⟩
  split at h
  · rename_i e hk
    obtain ⟨fe, hfe, hbig, hlen, hzl, h⟩ := h
    obtain ⟨es, hK, h⟩ := fillE_det h
    rw [hk] at h8
    have := toTK_slice h8.symm
    subst this
    have hrs : ∀ x ∈ List.replicate len fe.zero, x.length = fe.size := by
      intro x hx; rw [(List.mem_replicate.1 hx).2]; exact hzl
    obtain ⟨hD, hls, hel⟩ := fillE_fillD hrs h
    have hel' : es.length = len := by simpa using hel
    refine vRow_ok (by rw [ho]; simp) hls (by rw [hel']; unfold maxLen; omega) (fun a w g hr hu => ?_) hK
    obtain ⟨z', hz', hzr⟩ := run_zeroValue' hfe w g
    have hzsz : z'.cells.size = fe.size := by have := hzr.length; simp at this; omega
    obtain ⟨hp1, hp2⟩ := parts_rep (a := a) (parts := parts) hr hu hm
    -- the cells before the parts
    have hinit : ∃ c0 : Array Value, RepL w g c0.toList (List.replicate len fe.zero).flatten ∧
        ((if len * fe.size = 0 then (pure #[] : Sem (Array Value)) else do pure (← zeroValue e).cells).run E.P w = .ok (if len * fe.size = 0 then #[] else z'.cells) w) ∧
        (Array.range (len * fe.size)).map ((if len * fe.size = 0 then #[] else z'.cells)[· % (if len * fe.size = 0 then (#[] : Array Value) else z'.cells).size]!) = c0 := by
      by_cases h0 : len * fe.size = 0
      · refine ⟨#[], ?_, by simp [h0], by simp [h0]⟩
        rw [List.eq_nil_of_length_eq_zero (l := (List.replicate len fe.zero).flatten) (by rw [flatten_len hrs]; simpa using h0)]
        simp [RepL]
      · refine ⟨_, ?_, by simp [h0, hz'], rfl⟩
        simp only [h0, if_false]
        rw [← hzsz, made_flat]
        exact repL_flatten hzr len
    obtain ⟨c0, hc0, hrun0, hc0e⟩ := hinit
    obtain ⟨arr', hf, hl⟩ := fill_ok hD hp1 hp2 hc0
    refine ⟨arr', ?_, hl⟩
    clear hp1 hp2
    generalize hpv : (parts.map fun (i, x) => (i, a.eval x)) = pv at hf
    have hb : (Instr.buildSlice t len pv).run E.P w = .ok (.slice (some ⟨w.heap.size, 0, none⟩) len len) (w.alloc (.cells arr' e)) := by
      have hnb : ¬ 16777216 < len * fe.size := by omega
      unfold Instr.buildSlice
      simp only [Sem.run_bind, run_underlying h2, Result.andThen_ok, run_sizeOf' hfe]
      by_cases h0 : len * fe.size = 0
      · simp only [h0, if_true] at hc0e hrun0 ⊢
        simp at hc0e
        subst hc0e
        simp [hf, newRow, newObj, Sem.run]
      · simp only [h0, if_false] at hc0e hrun0 ⊢
        simp [hnb, hz', hc0e, hf, newRow, newObj, Sem.run]
    simp only [execOp, ho, hpv]
    simp [hb, hel']
  · exact h.elim
end ops
end Go.Abs
