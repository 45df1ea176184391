/- An abstract walk over the model: what a function does, as a computation on described values; proved once for all functions. -/
import Derived.Test.YtjgooecohepkoaaGreatDoorEAD
import Derived.Laws.StructEq
import Derived.Laws.BytesString
import Derived.Lib.ConvBytes
set_option linter.unusedVariables false
set_option linter.unusedSimpArgs false
namespace Go.Abs
open Go

section ops
variable {Y : Sy} {E : Env Y} {o : Oper} {σ : List (Nat × D)} {S : Store} {nx : Nat} {K : KT}

/-! ### len -/
def vLen {Y : Sy} (E : Env Y) (t : Nat) (x : D) (S : Store) (nx : Nat) (K : KT) : Prop :=
  onSome (E.T t) fun ti => match ti.k, x with
  | .str, .s l => K (.v (.int .i64 l.length)) S nx [] []
  | .slice _, .sl es _ => K (.v (.int .i64 es.length)) S nx [] []
  | .slice _, .own _ n => K (.v (.int .i64 n)) S nx [] []
  | .slice _, .v (.slice _ n _) => K (.v (.int .i64 n)) S nx [] []
  | .map _ _, .mp l => onSome (look S l) fun ob => match ob with
    | .mp es => K (.v (.int .i64 es.length)) S nx [l] []
    | _ => False
  | .map _ _, .fmp ks _ => K (.v (.int .i64 ks.length)) S nx [] []
  | .array n _, _ => K (.v (.int .i64 n)) S nx [] []
  | _, _ => False

theorem mp_of {w : World} {g : G} {l : Nat} {es : List (Value × D)} (hs : SimS E w g (look [(l, .mp es)])) : ∃ b c arr clock, g.φ l = some (some b, c) ∧ w.heap[b]? = some (.map arr clock) ∧ arr.toList.map (·.key) = es.map (·.1) ∧
    RepL w g (arr.toList.map (·.val)) (es.map (·.2)) ∧ (∀ e ∈ arr.toList, e.born < clock) ∧ (arr.toList.map (·.born)).Nodup := by
  obtain ⟨⟨p, c⟩, h1, b, arr, clock, h2, h3⟩ := obj_of hs
  simp only at h2
  subst h2
  exact ⟨b, c, arr, clock, h1, h3⟩

theorem vLen_ok {t : Nat} {x : Operand} (ho : o.op = .call { callee := .builtin .len, args := #[x], argTypes := #[t] }) (h : vLen E t (evD E.gl σ x) S nx K) : VopRes E o σ S nx K := by
  obtain ⟨ti, hti, h⟩ := h
  have hx : x ∈ o.op.operands := by rw [ho]; simp [Op.operands, Call.operands]
  have hdef : ∀ c, o.op ≠ .defer c := by rw [ho]; simp
  obtain ⟨i, desc, z, h1, h2, h3, h4, h5, h6, h7, h8, h9⟩ := ti_spec hti
  have hrun : ∀ (a : Act) (w : World) (v : Value), (Builtin.len_ #[t] o.type #[a.eval x]).run E.P w = .ok v w → (execOp a.eval o).run E.P w = .ok (.value v) w := by
    intro a w v h
    simp [execOp, ho, resolve, invoke, builtin, h]
  split at h
  · rename_i l hk hev
    rw [hk] at h8
    have := toTK_str h8.symm
    subst this
    refine VopRes.pure (acts_read hdef fun a w g hr hu _ => ⟨_, hrun a w (.int .i64 l.length) ?_, by simp [Rep]⟩) h
    have hrep := rep_eval hr hu hx
    rw [hev] at hrep
    simp only [Rep] at hrep
    have hsz : (⟨⟨l⟩⟩ : ByteArray).size = l.length := rfl
    simp [Builtin.len_, run_underlying h2, hrep, goInt, hsz]
  · rename_i e es sz hk hev
    rw [hk] at h8
    have := toTK_slice h8.symm
    subst this
    refine VopRes.pure (acts_read hdef fun a w g hr hu _ => ⟨_, hrun a w (.int .i64 es.length) ?_, by simp [Rep]⟩) h
    have hrep := rep_eval hr hu hx
    rw [hev] at hrep
    simp only [Rep] at hrep
    obtain ⟨ba, c, e1, _⟩ := hrep
    simp [Builtin.len_, run_underlying h2, e1, goInt]
  · rename_i e l n hk hev
    rw [hk] at h8
    have := toTK_slice h8.symm
    subst this
    refine VopRes.pure (acts_read hdef fun a w g hr hu _ => ⟨_, hrun a w (.int .i64 n) ?_, by simp [Rep]⟩) h
    have hrep := rep_eval hr hu hx
    rw [hev] at hrep
    simp only [Rep] at hrep
    rcases hrep with ⟨b, c, _, _, e1⟩ | ⟨_, rfl, e1⟩ <;> simp [Builtin.len_, run_underlying h2, e1, goInt]
  · rename_i e a0 n c0 hk hev
    rw [hk] at h8
    have := toTK_slice h8.symm
    subst this
    refine VopRes.pure (acts_read hdef fun a w g hr hu _ => ⟨_, hrun a w (.int .i64 n) ?_, by simp [Rep]⟩) h
    have hrep := rep_eval hr hu hx
    rw [hev] at hrep
    simp only [Rep] at hrep
    simp [Builtin.len_, run_underlying h2, hrep, goInt]
  · rename_i k e l hk hev
    obtain ⟨ob, hob, h⟩ := h
    cases ob <;> simp only at h
    case mp es =>
      rw [hk] at h8
      have := toTK_map h8.symm
      subst this
      refine VopRes.read hob (acts_read hdef fun a w g hr hu hs => ⟨_, hrun a w (.int .i64 es.length) ?_, by simp [Rep]⟩) h
      have hrep := rep_eval hr hu hx
      rw [hev] at hrep
      simp only [Rep] at hrep
      obtain ⟨b, c, hφ, e1⟩ := hrep
      obtain ⟨b', c', arr, clock, hφ', hh, hkeys, _⟩ := mp_of hs
      rw [hφ] at hφ'
      cases hφ'
      have hlen : arr.size = es.length := by have := congrArg List.length hkeys; simpa using this
      simp [Builtin.len_, run_underlying h2, e1, goInt, getObj, Sem.run, hh, hlen]
  · rename_i k e ks ds hk hev
    rw [hk] at h8
    have := toTK_map h8.symm
    subst this
    refine VopRes.pure (acts_read hdef fun a w g hr hu _ => ⟨_, hrun a w (.int .i64 ks.length) ?_, by simp [Rep]⟩) h
    have hrep := rep_eval hr hu hx
    rw [hev] at hrep
    simp only [Rep] at hrep
    obtain ⟨b, arr, clock, e1, _, hh, hkeys, _⟩ := hrep
    have hlen : arr.size = ks.length := by have := congrArg List.length hkeys; simpa using this
    simp [Builtin.len_, run_underlying h2, e1, goInt, getObj, Sem.run, hh, hlen]
  · rename_i n e hk
    rw [hk] at h8
    have := toTK_array h8.symm
    subst this
    refine VopRes.pure (acts_read hdef fun a w g hr hu _ => ⟨_, hrun a w (.int .i64 n) ?_, by simp [Rep]⟩) h
    simp [Builtin.len_, run_underlying h2, goInt]
  · exact h.elim

/-! ### Unary operators -/
def vUn (op : UnOp) (x : D) (S : Store) (nx : Nat) (K : KT) : Prop :=
  match op, x with
  | .not, .v (.bool b) => K (.v (.bool !b)) S nx [] []
  | .neg, .v (.int k n) => K (.v (.int k (k.wrap (0 - n)))) S nx [] []
  | _, _ => False
theorem vUn_ok {op : UnOp} {t : Nat} {x : Operand} (ho : o.op = .unOp op t x) (h : vUn op (evD E.gl σ x) S nx K) : VopRes E o σ S nx K := by
  have hx : x ∈ o.op.operands := by rw [ho]; simp [Op.operands]
  have hdef : ∀ c, o.op ≠ .defer c := by rw [ho]; simp
  unfold vUn at h
  split at h
  · rename_i b hev
    refine VopRes.pure (acts_read hdef fun a w g hr hu _ => ⟨.bool !b, ?_, by simp [Rep]⟩) h
    have hrep := rep_eval hr hu hx
    rw [hev] at hrep
    simp only [Rep] at hrep
    simp [execOp, ho, hrep, Op.unary]
  · rename_i k n hev
    refine VopRes.pure (acts_read hdef fun a w g hr hu _ => ⟨.int k (k.wrap (0 - n)), ?_, by simp [Rep]⟩) h
    have hrep := rep_eval hr hu hx
    rw [hev] at hrep
    simp only [Rep] at hrep
    simp [execOp, ho, hrep, Op.unary, Op.intArith]
  · exact h.elim

/-! ### Binary operators -/
def strBin (op : BinOp) (a b : List UInt8) (K : D → Prop) : Prop :=
  match op with
  | .add => a.length + b.length ≤ 9223372036854775807 ∧ K (.s (a ++ b))
  | .eql => K (.v (.bool (a == b)))
  | .neq => K (.v (.bool (!(a == b))))
  | .lss => K (.v (.bool (Op.bytesLess a b)))
  | .leq => K (.v (.bool (Op.bytesLess a b || a == b)))
  | .gtr => K (.v (.bool (!(Op.bytesLess a b || a == b))))
  | .geq => K (.v (.bool (!(Op.bytesLess a b))))
  | _ => False
def eqCell {Y : Sy} (E : Env Y) (ty : Nat) (x y : D) : Option Bool :=
  match E.T ty, x, y with
  | some ti, .v (.int k a), .v (.int k' b) => match ti.k with | .int _ => if k = k' then some (a == b) else none | _ => none
  | some ti, .s a, .s b => match ti.k with | .str => some (a == b) | _ => none
  | some ti, .v (.bool a), .v (.bool b) => match ti.k with | .bool => some (a == b) | _ => none
  | _, _, _ => none
def eqFieldsD {Y : Sy} (E : Env Y) (xs ys : List D) : List (Nat × Nat) → Option Bool
  | [] => some true
  | (off, ty) :: r => match xs[off]?, ys[off]?, eqFieldsD E xs ys r with
    | some x, some y, some q => (eqCell E ty x y).map (· && q)
    | _, _, _ => none
def vBin {Y : Sy} (E : Env Y) (op : BinOp) (t : Nat) (x y : D) (S : Store) (nx : Nat) (K : KT) : Prop :=
  match x, y with
  | .v (.int k a), .v (.int k' b) => match op with
    | .shl => 0 ≤ b ∧ K (.v (.int k (k.wrap (a * 2 ^ (min b.toNat k.bits))))) S nx [] []
    | .shr => 0 ≤ b ∧ K (.v (.int k (a.fdiv (2 ^ (min b.toNat k.bits))))) S nx [] []
    | _ => k = k' ∧ intBin op k a b fun d => K d S nx [] []
  | .s a, .s b => strBin op a b fun d => K d S nx [] []
  | .v (.bool a), .v (.bool b) => onSome (E.T t) fun ti => match ti.k, op with
    | .bool, .eql => K (.v (.bool (a == b))) S nx [] []
    | .bool, .neq => K (.v (.bool (!(a == b)))) S nx [] []
    | _, _ => False
  | .agg xs, .agg ys => onSome (E.T t) fun ti => ti.eqok = true ∧ match ti.k, op with
    | .struct fs, .eql => onSome (eqFieldsD E xs ys fs) fun b => K (.v (.bool b)) S nx [] []
    | .struct fs, .neq => onSome (eqFieldsD E xs ys fs) fun b => K (.v (.bool (!b))) S nx [] []
    | _, _ => False
  | _, _ => False

theorem intBin_ok {op : BinOp} {k : IntKind} {a b : Int} {K' : D → Prop} (hsh : op ≠ .shl ∧ op ≠ .shr) (h : intBin op k a b K') (P : Program) (t : Nat) : ∃ v, (∀ w : World, (binOp op t (.int k a) (.int k b)).run P w = .ok v w) ∧ K' (.v v) := by
  cases op <;> simp only [intBin, ne_eq] at h hsh <;> simp only [binOp, Op.intArith, Op.intDiv, Op.intCmp, ne_eq, not_true_eq_false, if_false]
  case quo => exact ⟨_, fun w => by simp [h.1], h.2⟩
  case rem => exact ⟨_, fun w => by simp [h.1], h.2⟩
  case and => exact ⟨_, fun w => by simp [Op.intBits]; rfl, by simpa [bits] using h⟩
  case or => exact ⟨_, fun w => by simp [Op.intBits]; rfl, by simpa [bits] using h⟩
  case xor => exact ⟨_, fun w => by simp [Op.intBits]; rfl, by simpa [bits] using h⟩
  case andNot => exact ⟨_, fun w => by simp [Op.intBits]; rfl, by simpa [bits] using h⟩
  all_goals exact ⟨_, fun _ => rfl, by simpa using h⟩

theorem eqGuard_plain {P : Program} {w : World} {op : BinOp} {t : Nat} {x y : Operand} {a b : Value} (h : a.oneCell' = true) (h2 : a ≠ .nilIface) : (eqGuard op t x y a b).run P w = .ok () w := by
  unfold eqGuard
  cases op <;> cases a <;> first
    | (simp [Value.oneCell'] at h; done)
    | (exact absurd rfl h2)
    | (cases b <;> simp)

theorem rep_cell_at {w : World} {g : G} {t : Nat} {ti : TI} (hti : E.T t = some ti) (hna : ti.agg = false) {vs : List Value} {cs : List D} {off : Nat} (hl : RepL w g vs cs) {d : D} (hd : cs[off]? = some d) :
    ∃ v, (part t vs.toArray off).run E.P w = .ok v w ∧ Rep w g v d := by
  obtain ⟨v, d', h1, h2, rfl⟩ := run_part (K := (· = d)) hti hl (off := off) (by unfold loadD; rw [hna]; exact ⟨d, by rw [List.head?_drop]; exact hd, rfl⟩)
  exact ⟨v, h1, h2⟩

theorem eqCell_ok {t : Nat} {x y : D} {r : Bool} (h : eqCell E t x y = some r) {w : World} {g : G} {u v : Value} (hu : Rep w g u x) (hv : Rep w g v y) (d : Nat) :
    (∃ ti, E.T t = some ti ∧ ti.agg = false) ∧ (Op.equalIn (d + 1) t u v).run E.P w = .ok r w := by
  unfold eqCell at h
  split at h
  · rename_i ti k a k' b hti
    obtain ⟨i, desc, z, h1, h2, h3, h4, h5, h6, h7, h8, h9⟩ := ti_spec hti
    split at h
    · rename_i kk hk
      split at h
      · rename_i hkk
        cases h
        subst hkk
        rw [hk] at h8
        have := toTK_int h8.symm
        subst this
        simp only [Rep] at hu hv
        subst hu; subst hv
        exact ⟨⟨ti, hti, h4⟩, run_equalIn_int w d t k kk a b h2⟩
      · cases h
    · cases h
  · rename_i ti a b hti
    obtain ⟨i, desc, z, h1, h2, h3, h4, h5, h6, h7, h8, h9⟩ := ti_spec hti
    split at h
    · rename_i hk
      cases h
      rw [hk] at h8
      have := toTK_str h8.symm
      subst this
      simp only [Rep] at hu hv
      subst hu; subst hv
      have := run_equalIn_string (P := E.P) w d t ⟨⟨a⟩⟩ ⟨⟨b⟩⟩ h2
      simp only [ByteArray.toList_eq] at this
      exact ⟨⟨ti, hti, h4⟩, this⟩
    · cases h
  · rename_i ti a b hti
    obtain ⟨i, desc, z, h1, h2, h3, h4, h5, h6, h7, h8, h9⟩ := ti_spec hti
    split at h
    · rename_i hk
      cases h
      rw [hk] at h8
      have := toTK_bool h8.symm
      subst this
      simp only [Rep] at hu hv
      subst hu; subst hv
      exact ⟨⟨ti, hti, h4⟩, run_equalIn_bool' w d t a b h2⟩
    · cases h
  · cases h

theorem eqFields_ok {w : World} {g : G} {xs ys : List D} {us vs : List Value} (hu : RepL w g us xs) (hv : RepL w g vs ys) (d : Nat) : ∀ {fs : List Field} {r : Bool}, (fs.all (fun f => f.name != "_") = true) →
    eqFieldsD E xs ys (fs.map fun f => (f.offset, f.type)) = some r → (Op.eqFields (d + 1) us.toArray vs.toArray fs).run E.P w = .ok r w
  | [], r, _, h => by simp [eqFieldsD] at h; subst h; simp [Op.eqFields]
  | f :: fs, r, hn, h => by
    simp only [List.map_cons, eqFieldsD] at h
    simp only [List.all_cons, Bool.and_eq_true, bne_iff_ne, ne_eq] at hn
    split at h
    · rename_i x y q hx hy hq
      simp only [Option.map_eq_some_iff] at h
      obtain ⟨b, hb, rfl⟩ := h
      obtain ⟨u, hu1, _⟩ := hu.get hx
      obtain ⟨v, hv1, _⟩ := hv.get hy
      obtain ⟨⟨ti, hti, hna⟩, _⟩ := eqCell_ok hb (hu.get hx).choose_spec.2 (hv.get hy).choose_spec.2 d
      obtain ⟨u', hp1, hr1⟩ := rep_cell_at hti hna hu hx
      obtain ⟨v', hp2, hr2⟩ := rep_cell_at hti hna hv hy
      obtain ⟨_, he⟩ := eqCell_ok hb hr1 hr2 d
      have ih := eqFields_ok hu hv d hn.2 hq
      unfold Op.eqFields
      rw [if_pos (by simpa using hn.1)]
      simp only [Sem.run_bind, hp1, hp2, Result.andThen_ok, he]
      cases b with
      | true => simp [ih]
      | false => simp
    · cases h

theorem vBin_ok {op : BinOp} {t yt : Nat} {x y : Operand} (ho : o.op = .binOp op t x y yt) (h : vBin E op t (evD E.gl σ x) (evD E.gl σ y) S nx K) : VopRes E o σ S nx K := by
  have hx : x ∈ o.op.operands := by rw [ho]; simp [Op.operands]
  have hy : y ∈ o.op.operands := by rw [ho]; simp [Op.operands]
  have hdef : ∀ c, o.op ≠ .defer c := by rw [ho]; simp
  have hrun : ∀ (a : Act) (w : World) (v : Value), (a.eval x).oneCell' = true → a.eval x ≠ .nilIface → (binOp op t (a.eval x) (a.eval y)).run E.P w = .ok v w → (execOp a.eval o).run E.P w = .ok (.value v) w := by
    intro a w v h1 h2 h3
    simp [execOp, ho, eqGuard_plain h1 h2, h3]
  unfold vBin at h
  split at h
  · rename_i k p k' q hex hey
    have key : ∀ v, (∀ w, (binOp op t (.int k p) (.int k' q)).run E.P w = .ok v w) → K (.v v) S nx [] [] → VopRes E o σ S nx K := by
      intro v hv hK
      refine VopRes.pure (acts_read hdef fun a w g hr hu _ => ⟨v, ?_, by simp [Rep]⟩) hK
      have h1 := rep_eval hr hu hx
      have h2 := rep_eval hr hu hy
      rw [hex] at h1
      rw [hey] at h2
      simp only [Rep] at h1 h2
      refine hrun a w v (by rw [h1]; rfl) (by rw [h1]; simp) ?_
      rw [h1, h2]; exact hv w
    have gen : (op ≠ .shl ∧ op ≠ .shr) → (k = k' ∧ intBin op k p q fun d => K d S nx [] []) → VopRes E o σ S nx K := by
      rintro hsh ⟨rfl, hb⟩
      obtain ⟨v, h1, h2⟩ := intBin_ok hsh hb E.P t
      exact key v h1 h2
    cases op <;> simp only at h
    case shl => exact key _ (fun w => by simp [binOp, Op.shift, show ¬ q < 0 by omega]) h.2
    case shr => exact key _ (fun w => by simp [binOp, Op.shift, show ¬ q < 0 by omega]) h.2
    all_goals exact gen (by simp) h
  · rename_i p q hex hey
    have key : ∀ v, (∀ w, (Op.stringOp op ⟨⟨p⟩⟩ ⟨⟨q⟩⟩).run E.P w = .ok v w) → (∀ d, (∀ w g, Rep w g v d) → K d S nx [] [] → VopRes E o σ S nx K) := by
      intro v hv d hd hK
      refine VopRes.pure (acts_read hdef fun a w g hr hu _ => ⟨v, ?_, hd w g⟩) hK
      have h1 := rep_eval hr hu hx
      have h2 := rep_eval hr hu hy
      rw [hex] at h1
      rw [hey] at h2
      simp only [Rep] at h1 h2
      refine hrun a w v (by rw [h1]; rfl) (by rw [h1]; simp) ?_
      rw [h1, h2]
      have := hv w
      cases op <;> exact this
    cases op <;> simp only [strBin] at h
    case add =>
      refine key (.string ⟨⟨p ++ q⟩⟩) (fun w => ?_) (.s (p ++ q)) (fun w g => by simp [Rep]) h.2
      have h63 : ¬ (IntKind.i64.max < ((p.length + q.length : Nat) : Int)) := by
        have := h.1
        simp only [IntKind.max, IntKind.signed, IntKind.bits]
        simp; omega
      have hs1 : (⟨⟨p⟩⟩ : ByteArray).size = p.length := rfl
      have hs2 : (⟨⟨q⟩⟩ : ByteArray).size = q.length := rfl
      simp only [Op.stringOp, hs1, hs2]
      rw [if_neg (by simpa using h63)]
      simp only [Sem.run_pure]
      congr 2
    case eql => exact key (.bool (p == q)) (fun w => by simp [Op.stringOp, ByteArray.toList_eq]) _ (fun w g => by simp [Rep]) h
    case neq => exact key (.bool (!(p == q))) (fun w => by simp [Op.stringOp, ByteArray.toList_eq]) _ (fun w g => by simp [Rep]) h
    case lss => exact key (.bool (Op.bytesLess p q)) (fun w => by simp [Op.stringOp, ByteArray.toList_eq]) _ (fun w g => by simp [Rep]) h
    case leq => exact key (.bool (Op.bytesLess p q || p == q)) (fun w => by simp [Op.stringOp, ByteArray.toList_eq]) _ (fun w g => by simp [Rep]) h
    case gtr => exact key (.bool (!(Op.bytesLess p q || p == q))) (fun w => by simp [Op.stringOp, ByteArray.toList_eq]) _ (fun w g => by simp [Rep]) h
    case geq => exact key (.bool (!(Op.bytesLess p q))) (fun w => by simp [Op.stringOp, ByteArray.toList_eq]) _ (fun w g => by simp [Rep]) h
  · rename_i p q hex hey
    obtain ⟨ti, hti, h⟩ := h
    obtain ⟨i, desc, z, h1, h2, h3, h4, h5, h6, h7, h8, h9⟩ := ti_spec hti
    split at h
    · rename_i hk
      rw [hk] at h8
      have := toTK_bool h8.symm
      subst this
      refine VopRes.pure (acts_read hdef fun a w g hr hu _ => ⟨.bool (p == q), ?_, by simp [Rep]⟩) h
      have e1 := rep_eval hr hu hx
      have e2 := rep_eval hr hu hy
      rw [hex] at e1
      rw [hey] at e2
      simp only [Rep] at e1 e2
      refine hrun a w _ (by rw [e1]; rfl) (by rw [e1]; simp) ?_
      rw [e1, e2]
      simp [binOp, Op.equal, Op.maxDepth, run_equalIn_bool' w 9999 t p q h2]
    · rename_i hk
      rw [hk] at h8
      have := toTK_bool h8.symm
      subst this
      refine VopRes.pure (acts_read hdef fun a w g hr hu _ => ⟨.bool (!(p == q)), ?_, by simp [Rep]⟩) h
      have e1 := rep_eval hr hu hx
      have e2 := rep_eval hr hu hy
      rw [hex] at e1
      rw [hey] at e2
      simp only [Rep] at e1 e2
      refine hrun a w _ (by rw [e1]; rfl) (by rw [e1]; simp) ?_
      rw [e1, e2]
      simp [binOp, Op.equal, Op.maxDepth, run_equalIn_bool' w 9999 t p q h2]
    · exact h.elim
  · rename_i xs ys hex hey
    obtain ⟨ti, hti, hok, h⟩ := h
    obtain ⟨i, desc, z, h1, h2, h3, h4, h5, h6, h7, h8, h9⟩ := ti_spec hti
    have hagg : ∀ (a : Act) (w : World) (g : G) (fs : List (Nat × Nat)) (r : Bool), ti.k = .struct fs → eqFieldsD E xs ys fs = some r → Reach E w g → (∀ x ∈ useOf o σ, Rep w g (a.tmps.getD x.1 undef) x.2) →
        (eqGuard op t x y (a.eval x) (a.eval y)).run E.P w = .ok () w ∧ (Op.equal t (a.eval x) (a.eval y)).run E.P w = .ok r w ∧ ∃ us, a.eval x = .agg us := by
      intro a w g fs r hk hb hr hu
      rw [hk] at h8
      obtain ⟨gs, rfl, rfl⟩ := toTK_struct h8.symm
      rw [hok] at h9
      have h9 := h9.symm
      simp only [Bool.and_eq_true, Bool.not_eq_true'] at h9
      have e1 := rep_eval hr hu hx
      have e2 := rep_eval hr hu hy
      rw [hex] at e1
      rw [hey] at e2
      simp only [Rep] at e1 e2
      obtain ⟨us, e1, hul⟩ := e1
      obtain ⟨vs, e2, hvl⟩ := e2
      have hfo : E.P.fieldsOf t = gs := by simp [Program.fieldsOf, h2]
      refine ⟨?_, ?_, us.toArray, e1⟩
      · rw [e1, e2]
        unfold eqGuard
        cases op <;> simp [run_program, h9.2]
      · rw [e1, e2]
        have h10 := run_equalIn_struct (P := E.P) w 9999 t us.toArray vs.toArray (by rw [hfo]; exact h2) h9.1.2
        rw [hfo] at h10
        have h11 := eqFields_ok hul hvl 9998 h9.1.1 hb
        unfold Op.equal Op.maxDepth
        rw [h10, h11]
    split at h
    · rename_i fs hk
      obtain ⟨r, hb, hK⟩ := h
      refine VopRes.pure (acts_read hdef fun a w g hr hu _ => ⟨.bool r, ?_, by simp [Rep]⟩) hK
      obtain ⟨g1, g2, us, g3⟩ := hagg a w g fs r hk hb hr hu
      have g4 : (binOp .eql t (a.eval x) (a.eval y)).run E.P w = .ok (.bool r) w := by
        have e2 := rep_eval hr hu hy
        rw [hey] at e2
        simp only [Rep] at e2
        obtain ⟨vs, e2, _⟩ := e2
        rw [g3, e2] at g2 ⊢
        simp [binOp, g2]
      simp [execOp, ho, g1, g4]
    · rename_i fs hk
      obtain ⟨r, hb, hK⟩ := h
      refine VopRes.pure (acts_read hdef fun a w g hr hu _ => ⟨.bool (!r), ?_, by simp [Rep]⟩) hK
      obtain ⟨g1, g2, us, g3⟩ := hagg a w g fs r hk hb hr hu
      have g4 : (binOp .neq t (a.eval x) (a.eval y)).run E.P w = .ok (.bool (!r)) w := by
        have e2 := rep_eval hr hu hy
        rw [hey] at e2
        simp only [Rep] at e2
        obtain ⟨vs, e2, _⟩ := e2
        rw [g3, e2] at g2 ⊢
        simp [binOp, g2]
      simp [execOp, ho, g1, g4]
    · exact h.elim
  · exact h.elim
end ops
end Go.Abs
namespace Go.Abs
open Go

section ops
variable {Y : Sy} {E : Env Y} {o : Oper} {σ : List (Nat × D)} {S : Store} {nx : Nat} {K : KT}

/-! ### Conversions -/
def byteD (b : UInt8) : List D := [.v (.int .u8 b.toNat)]
def bytesD : List (List D) → Option (List UInt8)
  | [] => some []
  | [.v (.int .u8 n)] :: r => (bytesD r).map (UInt8.ofNat n.toNat :: ·)
  | _ => none
def vConv {Y : Sy} (E : Env Y) (src dst : Nat) (x : D) (S : Store) (nx : Nat) (K : KT) : Prop :=
  onSome (E.T src) fun _ => onSome (E.T dst) fun td => match td.k, x with
  | .int k, .v (.int _ n) => K (.v (.int k (k.wrap n))) S nx [] []
  | .str, .s l => K (.s l) S nx [] []
  | .slice e, .s l => onSome (E.T e) fun te => match te.k with
    | .int .u8 => l.length ≤ maxLen ∧ K (.sl (l.map byteD) 1) S nx [] []
    | _ => False
  | _, _ => False

theorem vConv_ok {src dst : Nat} {x : Operand} (ho : o.op = .convert src dst x) (h : vConv E src dst (evD E.gl σ x) S nx K) : VopRes E o σ S nx K := by
  obtain ⟨ts, hts, td, htd, h⟩ := h
  have hx : x ∈ o.op.operands := by rw [ho]; simp [Op.operands]
  have hdef : ∀ c, o.op ≠ .defer c := by rw [ho]; simp
  obtain ⟨i, desc, z, h1, h2, h3, h4, h5, h6, h7, h8, h9⟩ := ti_spec htd
  obtain ⟨is, descs, zs, g1, g2, g3, g4, g5, g6, g7, g8, g9⟩ := ti_spec hts
  split at h
  · rename_i k k' n hk hev
    rw [hk] at h8
    have := toTK_int h8.symm
    subst this
    refine VopRes.pure (acts_read hdef fun a w g hr hu _ => ⟨.int k (k.wrap n), ?_, by simp [Rep]⟩) h
    have hrep := rep_eval hr hu hx
    rw [hev] at hrep
    simp only [Rep] at hrep
    simp [execOp, ho, hrep, convert, run_underlying h2, run_underlying g2, Conv.intToInt]
  · rename_i l hk hev
    rw [hk] at h8
    have := toTK_str h8.symm
    subst this
    refine VopRes.pure (acts_read hdef fun a w g hr hu _ => ⟨.string ⟨⟨l⟩⟩, ?_, by simp [Rep]⟩) h
    have hrep := rep_eval hr hu hx
    rw [hev] at hrep
    simp only [Rep] at hrep
    simp [execOp, ho, hrep, convert, run_underlying h2, run_underlying g2]
  · rename_i e l hk hev
    obtain ⟨te, hte, h⟩ := h
    obtain ⟨ie, de, ze, e1, e2, e3, e4, e5, e6, e7, e8, e9⟩ := ti_spec hte
    split at h
    · rename_i hke
      obtain ⟨hmx, hK⟩ := h
      rw [hk] at h8
      have := toTK_slice h8.symm
      subst this
      rw [hke] at e8
      have := toTK_int e8.symm
      subst this
      refine VopRes.pure (acts_of hdef fun a w g hr hu _ _ => ?_) hK
      have hrep := rep_eval hr hu hx
      rw [hev] at hrep
      simp only [Rep] at hrep
      have hc := Lib.run_convert_string_bytes (P := E.P) w src dst e ⟨⟨l⟩⟩ g2 h2 e2
      have hsz : (⟨⟨l⟩⟩ : ByteArray).size = l.length := rfl
      have hw1 : (Lib.bytesWorld w e ⟨⟨l⟩⟩).heap.size = w.heap.size + 1 := Lib.bytesWorld_size w e _
      have htr : Tr (fun _ => False) w g (Lib.bytesWorld w e ⟨⟨l⟩⟩) (frz g w.heap.size) :=
        ⟨rfl, rfl, rfl, by omega, fun b hb _ => Lib.bytesWorld_at_old w e _ b hb, fun b h => .inl h, fun b h hb _ => by rcases h with h | h; exact h; omega, fun _ _ h => h, fun l b c h1 h2 => by simp only [frz] at h1; rw [h1] at h2; cases h2⟩
      refine ⟨_, _, frz g w.heap.size, .inl (by simp only [execOp, ho]; rw [hrep]; simp only [hc, Sem.run_bind, Result.andThen_ok]; rfl), ⟨htr.mono (fun _ h => h.elim), ⟨fun b h => ?_, fun l b c h => ?_⟩, simS_nil, fun l h => .inl h⟩, ?_⟩
      · rw [hw1]
        rcases h with h | h
        · have := hr.wf.zlt b h; omega
        · omega
      · rw [hw1]; have := hr.wf.flt l b c h; omega
      · simp only [Rep]
        refine ⟨_, _, by simp; exact ⟨rfl, hsz, rfl⟩, ?_, ?_, ?_, fun _ => ⟨_, rfl, .inr rfl, RepE.of_get fun k u hu => ?_⟩⟩
        · have := grownCap_ge w l.length 0 e; rw [hsz]; simpa using this
        · exact grownCap_le_maxLen w l.length 0 e hmx
        · intro u hu
          obtain ⟨b, _, rfl⟩ := List.mem_map.1 hu
          rfl
        · rw [List.getElem?_map] at hu
          simp only [Option.map_eq_some_iff] at hu
          obtain ⟨b, hb, rfl⟩ := hu
          refine ⟨[.int .u8 b.toNat], ?_, by simp [byteD, RepL, Rep]⟩
          intro j v hv
          cases j with
          | zero =>
            simp at hv
            subst hv
            rw [add_zero, addr_add]
            have hk : k < l.length := (List.getElem?_eq_some_iff.1 hb).1
            have := Lib.bytesWorld_cell w e ⟨⟨l⟩⟩ k (by rw [hsz]; exact hk)
            simp only [Nat.zero_add, Nat.mul_one]
            rw [this]
            simp [hb]
          | succ j => simp at hv
    · exact h.elim
  · exact h.elim

/-! ### min, max of two integers -/
def vMinMax (mx : Bool) (x y : D) (S : Store) (nx : Nat) (K : KT) : Prop :=
  match x, y with
  | .v (.int k a), .v (.int k' b) => k = k' ∧ K (.v (.int k (if mx then (if b > a then b else a) else (if b < a then b else a)))) S nx [] []
  | _, _ => False
theorem vMax_ok {x y : Operand} {ts : Array TypeId} (ho : o.op = .call { callee := .builtin .max, args := #[x, y], argTypes := ts }) (h : vMinMax true (evD E.gl σ x) (evD E.gl σ y) S nx K) : VopRes E o σ S nx K := by
  have hx : x ∈ o.op.operands := by rw [ho]; simp [Op.operands, Call.operands]
  have hy : y ∈ o.op.operands := by rw [ho]; simp [Op.operands, Call.operands]
  have hdef : ∀ c, o.op ≠ .defer c := by rw [ho]; simp
  unfold vMinMax at h
  split at h
  · rename_i k a k' b hex hey
    obtain ⟨rfl, hK⟩ := h
    refine VopRes.pure (acts_read hdef fun ac w g hr hu _ => ⟨.int k (if b > a then b else a), ?_, by simp [Rep]⟩) hK
    have e1 := rep_eval hr hu hx
    have e2 := rep_eval hr hu hy
    rw [hex] at e1
    rw [hey] at e2
    simp only [Rep] at e1 e2
    simp [execOp, ho, resolve, invoke, builtin, Builtin.max_, Builtin.max2, e1, e2]
  · exact h.elim

/-! ### Maps -/
def keyV : D → Option Value
  | .s l => some (.string ⟨⟨l⟩⟩)
  | .v (.int k n) => some (.int k n)
  | _ => none
def keyEq : Value → Value → Bool
  | .string a, .string b => a.data.toList == b.data.toList
  | .int k a, .int k' b => k == k' && a == b
  | _, _ => false
def keyKind : TK → Value → Bool
  | .str, .string _ => true
  | .int k, .int k' _ => k == k'
  | _, _ => false
/-- The first entry under a key. -/
def findM (es : List (Value × D)) (k : Value) : Option D := (es.find? fun e => keyEq k e.1).map (·.2)
def putM : List (Value × D) → Value → D → List (Value × D)
  | [], k, d => [(k, d)]
  | (k', e) :: r, k, d => if keyEq k k' then (k, d) :: r else (k', e) :: putM r k d

def vMakeMap (S : Store) (nx : Nat) (K : KT) : Prop := K (.mp nx) (putS S nx (.mp [])) (nx + 1) [] [nx]
theorem vMakeMap_ok {t : Nat} (ho : o.op = .makeMap t none) (h : vMakeMap S nx K) : VopRes E o σ S nx K := by
  refine VopRes.new (acts_of (by rw [ho]; simp) fun a w g hr hu _ hf => ?_) h
  have hφ : g.φ nx = none := hf nx (by simp [look]) (by simp [look])
  refine ⟨.map (some w.heap.size), w.alloc (.map #[] 0), _, .inl ?_, move_alloc_named hr hφ _ 0 ?_, ?_⟩
  · simp [execOp, ho, Instr.makeMap, newObj, Sem.run]
  · exact ⟨_, #[], 0, rfl, heap_alloc_new w _, by simp, by simp [RepL], by simp, by simp⟩
  · simp only [Rep]
    exact ⟨_, 0, by simp [named], rfl⟩

theorem sameNow_key {desc : TypeDesc} {tk : TK} (hd : tk = toTK desc) {k k' : Value} (h1 : keyKind tk k = true) (h2 : keyKind tk k' = true) : Instr.sameNow desc k k' = some (keyEq k k') := by
  subst hd
  cases k <;> simp [keyKind] at h1
  case int kk n =>
    cases hdk : toTK desc <;> rw [hdk] at h1 h2 <;> simp at h1
    subst h1
    have := toTK_int hdk
    subst this
    cases k' <;> simp [keyKind] at h2
    subst h2
    simp [Instr.sameNow, keyEq]
  case string s =>
    cases hdk : toTK desc <;> rw [hdk] at h1 h2 <;> simp at h1
    have := toTK_str hdk
    subst this
    cases k' <;> simp [keyKind] at h2
    simp [Instr.sameNow, keyEq, beq_toListBytes, ByteArray.toList_eq]

theorem findNow_ok {desc : TypeDesc} {tk : TK} (hd : tk = toTK desc) {k : Value} (hk : keyKind tk k = true) {w : World} {g : G} : ∀ {arr : List MapEntry} {es : List (Value × D)} (i : Nat),
    arr.map (·.key) = es.map (·.1) → (∀ e ∈ es, keyKind tk e.1 = true) → RepL w g (arr.map (·.val)) (es.map (·.2)) →
    (findM es k = none ∧ Instr.findNow desc k arr i = some none) ∨ ∃ d v j, findM es k = some d ∧ Instr.findNow desc k arr i = some (some (i + j, v)) ∧ Rep w g v d ∧ j < arr.length ∧
      (∃ e, arr[j]? = some e ∧ keyEq k e.key = true) ∧ ∀ q, q < j → ∀ e, arr[q]? = some e → keyEq k e.key = false
  | [], [], i, _, _, _ => .inl ⟨rfl, rfl⟩
  | [], _ :: _, _, h, _, _ => by simp at h
  | _ :: _, [], _, h, _, _ => by simp at h
  | e :: arr, (k', d) :: es, i, h, hkk, hl => by
    simp only [List.map_cons, List.cons.injEq] at h
    simp only [List.map_cons, RepL] at hl
    have hs := sameNow_key hd hk (hkk (k', d) (by simp))
    have hek : Instr.sameNow desc k e.key = some (keyEq k k') := by rw [h.1]; exact hs
    cases hq : keyEq k k' with
    | true =>
      right
      refine ⟨d, e.val, 0, by simp [findM, hq], by simp [Instr.findNow, hek, hq], hl.1, by simp, ⟨e, rfl, by rw [h.1]; exact hq⟩, by omega⟩
    | false =>
      rcases findNow_ok hd hk (i + 1) h.2 (fun e he => hkk e (by simp [he])) hl.2 with ⟨h1, h2⟩ | ⟨d', v, j, h1, h2, h3, h4, h5, h6⟩
      · left
        exact ⟨by simpa [findM, hq] using h1, by simp [Instr.findNow, hek, hq, h2]⟩
      · right
        refine ⟨d', v, j + 1, by simpa [findM, hq] using h1, ?_, h3, by simpa using h4, by simpa using h5, ?_⟩
        · simp only [Instr.findNow, hek, hq, h2]
          congr 3
          omega
        · intro q hq' e' he'
          cases q with
          | zero => simp at he'; subst he'; rw [h.1]; exact hq
          | succ q => exact h6 q (by omega) e' (by simpa using he')

theorem run_checkKey {P : Program} {w : World} {t : Nat} {desc : TypeDesc} (h : P.underlying t = some desc) {tk : TK} (hd : tk = toTK desc) {k : Value} (hk : keyKind tk k = true) (b : Bool) (n : Nat) : (Instr.checkKey b (n + 1) t k).run P w = .ok () w := by
  subst hd
  cases k <;> simp [keyKind] at hk
  case int kk m =>
    cases hdk : toTK desc <;> rw [hdk] at hk <;> simp at hk
    subst hk
    have := toTK_int hdk
    subst this
    simp [Instr.checkKey, run_underlying h]
  case string s =>
    cases hdk : toTK desc <;> rw [hdk] at hk <;> simp at hk
    have := toTK_str hdk
    subst this
    simp [Instr.checkKey, run_underlying h]

/-- The entries of a map, read. -/
def lookupD {Y : Sy} (E : Env Y) (t : Nat) (es : List (Value × D)) (key : D) (ok : Bool) (K : D → Prop) : Prop :=
  onSome (E.T t) fun ti => match ti.k with
  | .map kt et => onSome (E.T kt) fun tk => onSome (E.T et) fun te => onSome (keyV key) fun kv => keyKind tk.k kv = true ∧ (∀ e ∈ es, keyKind tk.k e.1 = true) ∧
      K (match findM es kv with
        | some d => (bif ok then .tup [d, .v (.bool true)] else d)
        | none => (bif ok then .tup [te.zd, .v (.bool false)] else te.zd))
  | _ => False
theorem rep_key {w : World} {g : G} {v kv : Value} {d : D} (h : Rep w g v d) (hk : keyV d = some kv) : v = kv := by
  unfold keyV at hk
  split at hk <;> cases hk <;> simp only [Rep] at h <;> exact h
theorem lookupD_det {t : Nat} {es : List (Value × D)} {key : D} {ok : Bool} {K : D → Prop} (h : lookupD E t es key ok K) : ∃ d, K d ∧ lookupD E t es key ok (· = d) := by
  unfold lookupD at h ⊢
  obtain ⟨ti, hti, h⟩ := h
  cases hk : ti.k <;> rw [hk] at h <;> simp only at h
  case map kt et =>
    obtain ⟨tk, htk, te, hte, kv, hkv, h1, h2, hK⟩ := h
    exact ⟨_, hK, ti, hti, by simp only [hk]; exact ⟨tk, htk, te, hte, kv, hkv, h1, h2, rfl⟩⟩

theorem run_lookup {t : Nat} {es : List (Value × D)} {key : D} {ok : Bool} {d : D} (h : lookupD E t es key ok (· = d)) {w : World} {g : G} {b : Nat} {arr : Array MapEntry} {clock : Nat} {kv : Value}
    (hh : w.heap[b]? = some (.map arr clock)) (hkeys : arr.toList.map (·.key) = es.map (·.1)) (hvals : RepL w g (arr.toList.map (·.val)) (es.map (·.2))) (hkv : Rep w g kv key) :
    ∃ v, (Instr.lookup t (.map (some b)) kv ok).run E.P w = .ok v w ∧ Rep w g v d := by
  obtain ⟨ti, hti, h⟩ := h
  obtain ⟨i, desc, z, h1, h2, h3, h4, h5, h6, h7, h8, h9⟩ := ti_spec hti
  split at h
  · rename_i kt et hk
    rw [hk] at h8
    have := toTK_map h8.symm
    subst this
    obtain ⟨tk, htk, te, hte, kv', hkv', hkk, hall, rfl⟩ := h
    have := rep_key hkv hkv'
    subst this
    obtain ⟨ik, dk, zk, k1, k2, k3, k4, k5, k6, k7, k8, k9⟩ := ti_spec htk
    have hck := run_checkKey (w := w) k2 k8 hkk arr.isEmpty 9999
    rcases findNow_ok k8 hkk 0 hkeys hall hvals with ⟨f1, f2⟩ | ⟨dd, v, j, f1, f2, f3, _⟩
    · rw [f1]
      obtain ⟨zv, hz, hzl⟩ := run_zeroValueD hte w g
      refine ⟨if ok then .tuple #[zv, .bool false] else zv, ?_, ?_⟩
      · simp [Instr.lookup, run_underlying h2, getObj, Sem.run, hh, hck, Instr.findKey, run_underlying k2, f2, hz]
      · cases ok with
        | true => simp only [cond_true, Rep, if_true]; exact ⟨[zv, .bool false], rfl, by simp only [RepL, Rep]; exact ⟨hzl, trivial, trivial⟩⟩
        | false => simp only [cond_false]; simpa using hzl
    · rw [f1]
      refine ⟨if ok then .tuple #[v, .bool true] else v, ?_, ?_⟩
      · simp [Instr.lookup, run_underlying h2, getObj, Sem.run, hh, hck, Instr.findKey, run_underlying k2, f2]
      · cases ok with
        | true => simp only [cond_true, Rep, if_true]; exact ⟨[v, .bool true], rfl, by simp only [RepL, Rep]; exact ⟨f3, trivial, trivial⟩⟩
        | false => simp only [cond_false]; simpa using f3
  · exact h.elim
end ops
end Go.Abs
namespace Go.Abs
open Go

theorem keyEq_eq {a b : Value} (h : keyEq a b = true) : a = b := by
  cases a <;> cases b <;> simp [keyEq] at h
  · rw [h.1, h.2]
  · rename_i s t
    congr 1
    exact ByteArray.ext h
theorem findM_none {k : Value} {d : D} : ∀ {es : List (Value × D)}, findM es k = none → putM es k d = es ++ [(k, d)]
  | [], _ => rfl
  | (k', e) :: r, h => by
    cases hq : keyEq k k' with
    | true => simp [findM, hq] at h
    | false =>
      simp only [putM, hq, List.cons_append]
      rw [findM_none (es := r) (by simpa [findM, hq] using h)]
      rfl
theorem putM_at {k : Value} {d : D} : ∀ {es : List (Value × D)} {j : Nat} (e : Value × D), es[j]? = some e → keyEq k e.1 = true → (∀ q, q < j → ∀ e, es[q]? = some e → keyEq k e.1 = false) → putM es k d = es.set j (k, d)
  | [], _, _, h, _, _ => by simp at h
  | (k', x) :: r, 0, e, h, hq, _ => by
    simp at h; subst h
    simp [putM, hq]
  | (k', x) :: r, j + 1, e, h, hq, hn => by
    have h0 := hn 0 (by omega) _ rfl
    simp only [putM, h0, List.set_cons_succ]
    rw [putM_at (es := r) e (by simpa using h) hq fun q hq' e' he' => hn (q + 1) (by omega) e' (by simpa using he')]
    rfl

theorem getObj_map' {P : Program} {w : World} {r : Nat} {es : Array MapEntry} {clock : Nat} (hb : w.heap[r]? = some (.map es clock)) : (getObj r).run P w = .ok (.map es clock) w := by
  simp [getObj, Sem.run, hb]
theorem setObj_map' {P : Program} {w : World} {r : Nat} {es : Array MapEntry} {clock : Nat} (o : Obj) (hb : w.heap[r]? = some (.map es clock)) : (setObj r o).run P w = .ok () { w with heap := w.heap.setIfInBounds r o } := by
  simp [setObj, Sem.run, hb]

theorem modify_keys' {es : Array MapEntry} (i : Nat) (f : MapEntry → MapEntry) (hk : ∀ e, es[i]? = some e → (f e).key = e.key) : (es.modify i f).toList.map (·.key) = es.toList.map (·.key) := by
  refine List.ext_getElem? fun q => ?_
  simp only [List.getElem?_map, Array.getElem?_toList, Array.getElem?_modify]
  split
  · rename_i h
    subst h
    cases he : es[i]? with
    | none => rfl
    | some e => simp [hk e he]
  · rfl

section ops
variable {Y : Sy} {E : Env Y} {o : Oper} {σ : List (Nat × D)} {S : Store} {nx : Nat} {K : KT}

def vLookup {Y : Sy} (E : Env Y) (t : Nat) (ok : Bool) (x key : D) (S : Store) (nx : Nat) (K : KT) : Prop := match x with
  | .mp l => onSome (look S l) fun | .mp es => lookupD E t es key ok fun d => K d S nx [l] [] | _ => False
  | .fmp ks ds => ks.length = ds.length ∧ lookupD E t (ks.zip ds) key ok fun d => K d S nx [] []
  | _ => False
theorem vLookup_ok {t : Nat} {ok : Bool} {x key : Operand} (ho : o.op = .lookup t x key ok) (h : vLookup E t ok (evD E.gl σ x) (evD E.gl σ key) S nx K) : VopRes E o σ S nx K := by
  have hx : x ∈ o.op.operands := by rw [ho]; simp [Op.operands]
  have hkk : key ∈ o.op.operands := by rw [ho]; simp [Op.operands]
  have hdef : ∀ c, o.op ≠ .defer c := by rw [ho]; simp
  unfold vLookup at h
  split at h
  · rename_i l hev
    obtain ⟨ob, hl, h⟩ := h
    split at h
    · rename_i es
      obtain ⟨d, hK, hd⟩ := lookupD_det h
      refine VopRes.read hl (acts_read hdef fun a w g hr hu hs => ?_) hK
      obtain ⟨b, c, arr, clock, hφ, hh, h1, h2, h3, h4⟩ := mp_of hs
      have e1 := rep_eval hr hu hx
      have e2 := rep_eval hr hu hkk
      rw [hev] at e1
      simp only [Rep] at e1
      obtain ⟨b', c', hφ', e1⟩ := e1
      rw [hφ] at hφ'
      cases hφ'
      obtain ⟨v, hrun, hv⟩ := run_lookup hd hh h1 h2 e2
      exact ⟨v, by simp [execOp, ho, e1, hrun], hv⟩
    · exact h.elim
  · rename_i ks ds hev
    obtain ⟨hlen, h⟩ := h
    obtain ⟨d, hK, hd⟩ := lookupD_det h
    refine VopRes.pure (acts_read hdef fun a w g hr hu hs => ?_) hK
    have e1 := rep_eval hr hu hx
    have e2 := rep_eval hr hu hkk
    rw [hev] at e1
    simp only [Rep] at e1
    obtain ⟨b, arr, clock, e1, _, hh, h1, h2, h3, h4⟩ := e1
    obtain ⟨v, hrun, hv⟩ := run_lookup hd hh (by rw [h1, List.map_fst_zip (by omega)]) (by rw [List.map_snd_zip (by omega)]; exact h2.ofCl) e2
    exact ⟨v, by simp [execOp, ho, e1, hrun], hv⟩
  · exact h.elim

def vMapUpdate {Y : Sy} (E : Env Y) (t : Nat) (x key d : D) (S : Store) (nx : Nat) (K : KT) : Prop :=
  onSome (E.T t) fun ti => match ti.k with
  | .map kt _ => onSome (E.T kt) fun tk => onSome (keyV key) fun kv => match x with
    | .mp l => onSome (look S l) fun
      | .mp es => (keyKind tk.k kv = true ∧ (∀ e ∈ es, keyKind tk.k e.1 = true)) ∧ K .any (putS S l (.mp (putM es kv d))) nx [l] [l]
      | _ => False
    | _ => False
  | _ => False

theorem vMapUpdate_ok {t : Nat} {x key y : Operand} (ho : o.op = .mapUpdate t x key y ∨ o.op = .insert t x key y) (h : vMapUpdate E t (evD E.gl σ x) (evD E.gl σ key) (evD E.gl σ y) S nx K) : VopRes E o σ S nx K := by
  obtain ⟨ti, hti, h⟩ := h
  obtain ⟨i, desc, z, h1, h2, h3, h4, h5, h6, h7, h8, h9⟩ := ti_spec hti
  have hx : x ∈ o.op.operands := by rcases ho with ho | ho <;> · rw [ho]; simp [Op.operands]
  have hkk : key ∈ o.op.operands := by rcases ho with ho | ho <;> · rw [ho]; simp [Op.operands]
  have hy : y ∈ o.op.operands := by rcases ho with ho | ho <;> · rw [ho]; simp [Op.operands]
  have hdef : ∀ c, o.op ≠ .defer c := by rcases ho with ho | ho <;> · rw [ho]; simp
  have hex : ∀ (a : Act) (w w' : World), (Instr.mapUpdate t (a.eval x) (a.eval key) (a.eval y)).run E.P w = .ok () w' → (execOp a.eval o).run E.P w = .ok .skip w' := by
    intro a w w' hrun
    rcases ho with ho | ho <;> simp [execOp, ho, hrun]
  split at h
  · rename_i kt et hk
    rw [hk] at h8
    have := toTK_map h8.symm
    subst this
    obtain ⟨tk, htk, kv, hkv, h⟩ := h
    obtain ⟨ik, dk, zk, k1, k2, k3, k4, k5, k6, k7, k8, k9⟩ := ti_spec htk
    split at h
    · rename_i l hev
      obtain ⟨ob, hl, h⟩ := h
      split at h
      · rename_i es
        obtain ⟨⟨hkind, hall⟩, hK⟩ := h
        refine VopRes.write hl (acts_of hdef fun a w g hr hu hs _ => ?_) hK
        obtain ⟨b, c, arr, clock, hφ, hh, m1, m2, m3, m4⟩ := mp_of hs
        have e1 := rep_eval hr hu hx
        have e2 := rep_key (rep_eval hr hu hkk) hkv
        have e3 := rep_eval hr hu hy
        rw [hev] at e1
        simp only [Rep] at e1
        obtain ⟨b', c', hφ', e1⟩ := e1
        rw [hφ] at hφ'
        cases hφ'
        have hb : b < w.heap.size := hr.wf.flt _ _ _ hφ
        have hck := run_checkKey (w := w) k2 k8 hkind false 9999
        have hmove : ∀ (arr' : Array MapEntry) (clock' : Nat) (es' : List (Value × D)), arr'.toList.map (·.key) = es'.map (·.1) → RepL w g (arr'.toList.map (·.val)) (es'.map (·.2)) → (∀ e ∈ arr'.toList, e.born < clock') → (arr'.toList.map (·.born)).Nodup →
            (Instr.mapUpdate t (.map (some b)) kv (a.eval y)).run E.P w = .ok () { w with heap := w.heap.set! b (.map arr' clock') } →
            ∃ v w' g', ((execOp a.eval o).run E.P w = .ok (.value v) w' ∨ (execOp a.eval o).run E.P w = .ok .skip w' ∧ v = undef) ∧ Move E (look [(l, .mp es)]) (look [(l, .mp es')]) w g w' g' ∧ Rep w' g' v .any := by
          intro arr' clock' es' q1 q2 q3 q4 hrun
          have hsz : ({ w with heap := w.heap.set! b (.map arr' clock') } : World).heap.size = w.heap.size := by simp
          have hm := move_write (w' := { w with heap := w.heap.set! b (.map arr' clock') }) (ob' := .mp es') hr hs hφ rfl rfl rfl hsz (fun k hne => by simp [Ne.symm hne]) ?_
          · exact ⟨undef, _, g, .inr ⟨hex a w _ (by rw [e1, e2]; exact hrun), rfl⟩, hm, by simp [Rep]⟩
          · refine ⟨b, arr', clock', rfl, by simp [hb], q1, ?_, q3, q4⟩
            have hown : ∀ z, g.Z z → ¬ (fun k => k = b) z := fun z hz he => by
              subst he
              exact hs.own_z _ hz ⟨l, c, by simp [look], hφ⟩
            refine RepL.tr (own := fun k => k = b) (w := w) (g := g) (w' := { w with heap := w.heap.set! b (.map arr' clock') }) ⟨rfl, rfl, rfl, by simp, fun k _ hne => by simp [Ne.symm hne], fun _ h => h, fun _ h _ _ => h, fun _ _ h => h, fun l b c h1 h2 => by rw [h1] at h2; cases h2⟩ hr.wf hown q2
        rcases findNow_ok k8 hkind 0 m1 hall m2 with ⟨f1, f2⟩ | ⟨dd, v, j, f1, f2, f3, f4, ⟨e0, f5, f6⟩, f7⟩
        · rw [findM_none f1]
          refine hmove (arr.push { key := kv, val := a.eval y, born := clock }) (clock + 1) _ (by simp [m1]) ?_ ?_ ?_ ?_
          · simp only [Array.toList_push, List.map_append, List.map_cons, List.map_nil]
            exact m2.append (by simp only [RepL]; exact ⟨e3, trivial⟩)
          · intro e he
            simp only [Array.toList_push, List.mem_append, List.mem_singleton] at he
            rcases he with he | rfl
            · have := m3 e he; omega
            · simp
          · simp only [Array.toList_push, List.map_append, List.map_cons, List.map_nil]
            refine List.nodup_append.2 ⟨m4, by simp, ?_⟩
            intro x hx' y hy' he
            simp only [List.mem_singleton] at hy'
            subst hy'
            subst he
            obtain ⟨e, he, heq⟩ := List.mem_map.1 hx'
            have := m3 e he
            omega
          · simp [Instr.mapUpdate, run_underlying h2, getObj_map' hh, setObj_map' _ hh, hck, Instr.findKey, run_underlying k2, f2]
        · have hj : arr[j]? = some e0 := by simpa using f5
          have he0 : e0.key = kv := (keyEq_eq f6).symm
          have hes : ∃ e, es[j]? = some e ∧ e.1 = e0.key := by
            have := congrArg (·[j]?) m1
            simp only [List.getElem?_map, f5, Option.map_some] at this
            cases hq : es[j]? with
            | none => rw [hq] at this; simp at this
            | some e => rw [hq] at this; simp at this; exact ⟨e, rfl, this.symm⟩
          obtain ⟨ej, hej, hej1⟩ := hes
          have hp : putM es kv (evD E.gl σ y) = es.set j (kv, evD E.gl σ y) := by
            refine putM_at ej hej (by rw [hej1]; exact f6) fun q hq e he => ?_
            have := congrArg (·[q]?) m1
            simp only [List.getElem?_map, he, Option.map_some] at this
            cases hq' : arr.toList[q]? with
            | none => rw [hq'] at this; simp at this
            | some e' => rw [hq'] at this; simp at this; rw [← this]; exact f7 q hq e' hq'
          rw [hp]
          have hsb : Instr.sameBits 10000 kv kv = true := by
            cases kv <;> simp [keyKind] at hkind
            · simp [Instr.sameBits]
            · simp [Instr.sameBits, beq_toListBytes]
          have hkeys : (arr.modify j fun e => { e with key := kv, val := a.eval y }).toList.map (·.key) = arr.toList.map (·.key) := modify_keys' j _ fun e he => by rw [hj] at he; cases he; exact he0.symm
          have hborn : (arr.modify j fun e => { e with key := kv, val := a.eval y }).toList.map (·.born) = arr.toList.map (·.born) := by
            refine List.ext_getElem? fun q => ?_
            simp only [List.getElem?_map, Array.getElem?_toList, Array.getElem?_modify]
            split
            · cases arr[q]? <;> simp
            · rfl
          refine hmove _ clock _ (hkeys.trans (m1.trans ?_)) ?_ ?_ ?_ ?_
          · rw [List.map_set]
            refine List.ext_getElem? fun q => ?_
            rw [List.getElem?_set]
            split
            · rename_i hjq
              subst hjq
              have hlt : j < es.length := (List.getElem?_eq_some_iff.1 hej).1
              simp [hlt, ← he0, ← hej1, (List.getElem?_eq_some_iff.1 hej).2]
            · rfl
          · rw [List.map_set]
            have : (arr.modify j fun e => { e with key := kv, val := a.eval y }).toList.map (·.val) = (arr.toList.map (·.val)).set j (a.eval y) := by
              refine List.ext_getElem? fun q => ?_
              rw [List.getElem?_set]
              simp only [List.getElem?_map, Array.getElem?_toList, Array.getElem?_modify]
              split
              · rename_i hjq
                subst hjq
                have := f4; simp only [Array.length_toList] at this; simp [this]
              · rfl
            rw [this]
            exact m2.set j e3
          · intro e he
            have : e.born ∈ (arr.modify j fun e => { e with key := kv, val := a.eval y }).toList.map (·.born) := List.mem_map.2 ⟨e, he, rfl⟩
            rw [hborn] at this
            obtain ⟨e', he', heq⟩ := List.mem_map.1 this
            have := m3 e' he'
            omega
          · rw [hborn]; exact m4
          · simp [Instr.mapUpdate, run_underlying h2, getObj_map' hh, setObj_map' _ hh, hck, Instr.findKey, run_underlying k2, f2, hj, he0, Instr.keyThatStays, hsb]
      · exact h.elim
    · exact h.elim
  · exact h.elim
end ops
end Go.Abs
