/- An abstract walk over the model: what a function does, as a computation on described values; proved once for all functions. -/
import Derived.Test.YtjgooecohepkoaaGreatDoorEAE
set_option linter.unusedVariables false
set_option linter.unusedSimpArgs false
namespace Go.Abs
open Go

/-- What a call of a function gives. -/
def FnOK (Y : Sy) (k : Nat) (args : List D) (pre : Store) (d : D) (post : Store) : Prop :=
  (∃ fn, Y.P.funcs[k]? = some fn ∧ (fn.name == "runtime.NumGoroutine") = false ∧ fn.body.isNone = false) ∧
  ∀ (E : Env Y) w g vs, Reach E w g → RepL w g vs args → SimS E w g (look pre) → (∀ l, look pre l = none → look post l ≠ none → g.φ l = none) →
    CallsIn E.F 0 Y.P k vs.toArray w (fun e w' => ∃ v g', e = .returned v ∧ Move E (look pre) (look post) w g w' g' ∧ Rep w' g' v d)

section calls
variable {Y : Sy} {E : Env Y} {o : Oper} {σ : List (Nat × D)} {S : Store} {nx : Nat} {K : KT}

theorem fn_acts {k : Nat} {args : List D} {pre post : Store} {d : D} {use : List (Nat × D)} (hdef : ∀ c, o.op ≠ .defer c) (hfn : FnOK Y k args pre d post)
    (h : ∀ (a : Act) w g, Reach E w g → (∀ x ∈ use, Rep w g (a.tmps.getD x.1 undef) x.2) → ∃ vs, RepL w g vs args ∧ (execOp a.eval o).run E.P w = (callFunc k vs.toArray).run E.P w) :
    Acts E o use pre d post := by
  intro a w g hr hu hs hf next Q hK
  refine ⟨fun f _ => E.hF f, ?_⟩
  obtain ⟨vs, hvs, hrun⟩ := h a w g hr hu
  obtain ⟨⟨fn, h1, h2, h3⟩, hc⟩ := hfn
  rw [Oper.semAt_eq _ _ _ hdef, hrun]
  have he : (callFunc k vs.toArray).run E.P w = .ok (.enter k vs.toArray) w := by
    have h1' : E.P.funcs[k]? = some fn := h1
    have h2' : fn.name ≠ "runtime.NumGoroutine" := by simpa using h2
    have h3' : fn.body ≠ none := by intro e; rw [e] at h3; cases h3
    simp [callFunc, program, Sem.run, h1', h2', h3']
  rw [he, Oper.uponIn_enter]
  refine ⟨fun h => (by rw [E.hd] at h; cases h), ?_⟩
  refine (hc E w g vs hr hvs hs hf).mono ?_
  rintro e w' ⟨v, g', rfl, hm, hv⟩
  exact hK v w' g' hm hv

/-- The pieces of a step, laid side by side. -/
def namesL (S : Store) : List Nat := S.map (·.1)
theorem look_append (S T : Store) (l : Nat) : look (S ++ T) l = (look S l).or (look T l) := by
  induction S with
  | nil => simp [look]
  | cons x r ih =>
    obtain ⟨k, o⟩ := x
    simp only [List.cons_append, look]
    split <;> simp_all
def putAll (S : Store) : Store → Store
  | [] => S
  | (l, o) :: r => putS (putAll S r) l o
def delAll (S : Store) : List Nat → Store
  | [] => S
  | l :: r => delS (delAll S r) l
theorem look_putAll (S T : Store) (l : Nat) : look (putAll S T) l = (look T l).or (look S l) := by
  induction T with
  | nil => simp [putAll, look]
  | cons x r ih =>
    obtain ⟨k, o⟩ := x
    simp only [putAll, look_putS, look, ih]
    split <;> simp
theorem look_delAll (S : Store) (L : List Nat) (l : Nat) : look (delAll S L) l = if l ∈ L then none else look S l := by
  induction L with
  | nil => simp [delAll]
  | cons x r ih =>
    simp only [delAll, look_delS, ih, List.mem_cons]
    by_cases h : x = l
    · simp [h]
    · simp [h, Ne.symm h]
theorem look_none {S : Store} {l : Nat} : look S l = none ↔ l ∉ namesL S := by
  induction S with
  | nil => simp [look, namesL]
  | cons x r ih =>
    obtain ⟨k, o⟩ := x
    simp only [look, namesL, List.map_cons, List.mem_cons, not_or] at ih ⊢
    split
    · simp_all
    · rename_i h; rw [ih]; exact ⟨fun h' => ⟨fun e => h e.symm, h'⟩, fun h' => h'.2⟩

/-- A step that takes the names of pre and leaves those of post: 'pre' as they lie in the store; what is new is from nx on, and below nx'. -/
def Touch (S : Store) (nx : Nat) (pre post : Store) (nx' : Nat) : Prop :=
  (∀ x ∈ pre, look S x.1 = some x.2) ∧ nx ≤ nx' ∧ ∀ x ∈ post, look pre x.1 = none → nx ≤ x.1 ∧ x.1 < nx'
theorem VopRes.touch {pre post : Store} {nx' : Nat} {d : D} (ht : Touch S nx pre post nx') (ha : Acts E o (useOf o σ) pre d post)
    (hK : K d (putAll (delAll S (namesL pre)) post) nx' (namesL pre) (namesL post ++ namesL pre)) : VopRes E o σ S nx K := by
  obtain ⟨h1, h2, h3⟩ := ht
  refine ⟨d, _, nx', namesL pre, namesL post ++ namesL pre, pre, post, true, ⟨ha, h1, by simp, fun l => ?_, h2, fun l hl hl' => ?_, fun x hx => by simp [namesL]; exact ⟨x.2, hx⟩, fun _ => ⟨fun x hx => ?_, fun x hx => ?_⟩⟩, hK⟩
  · rw [look_putAll, look_delAll]
    cases hp : look post l with
    | some o' => simp
    | none =>
      simp only [Option.none_or]
      by_cases hm : l ∈ namesL pre
      · have : look pre l ≠ none := fun h => look_none.1 h hm
        simp [hm, this]
      · simp [hm, look_none.2 hm]
  · cases hp : look post l with
    | none => exact absurd hp hl'
    | some ob => exact h3 (l, ob) (look_mem hp) hl
  · exact List.mem_append_left _ (by simp [namesL]; exact ⟨x.2, hx⟩)
  · exact List.mem_append_right _ (by simp [namesL]; exact ⟨x.2, hx⟩)
theorem VopRes.keeps {pre : Store} {d : D} (h1 : ∀ x ∈ pre, look S x.1 = some x.2) (ha : Acts E o (useOf o σ) pre d pre) (hK : K d S nx (namesL pre) []) : VopRes E o σ S nx K :=
  ⟨d, S, nx, namesL pre, [], pre, pre, false, ⟨ha, h1, fun _ => rfl, fun l => by
    by_cases hm : look pre l = none
    · simp [hm]
    · cases hp : look pre l with
      | none => exact absurd hp hm
      | some ob =>
        have := h1 (l, ob) (look_mem hp)
        simp [this], Nat.le_refl _, fun l hl hl' => absurd hl hl', fun x hx => by simp [namesL]; exact ⟨x.2, hx⟩, by simp⟩, hK⟩

/-- What a function without a text gives. -/
def ExtOK (Y : Sy) (k : Nat) (args : List D) (d : D) : Prop := ∀ w g vs, RepL w g vs args → ∃ v, (callFunc k vs.toArray).run Y.P w = .ok (.value v) w ∧ Rep w g v d
/-- A call, as it stands in a walk. -/
inductive CallRes (Y : Sy) (k : Nat) (args : List D) (S : Store) (nx : Nat) (K : KT) : Prop where
  | pure (d : D) (h : FnOK Y k args [] d []) (hK : K d S nx [] [])
  | keeps (pre : Store) (d : D) (h : FnOK Y k args pre d pre) (h1 : ∀ x ∈ pre, look S x.1 = some x.2) (hK : K d S nx (namesL pre) [])
  | ext (d : D) (h : ExtOK Y k args d) (hK : K d S nx [] [])
  | touch (pre : Store) (d : D) (post : Store) (nx' : Nat) (h : FnOK Y k args pre d post) (ht : Touch S nx pre post nx') (hK : K d (putAll (delAll S (namesL pre)) post) nx' (namesL pre) (namesL post ++ namesL pre))

/-- What a round of a range over a function gives: the record's name is l. -/
def RdOK (Y : Sy) (l : Nat) (args : List D) (pre : Store) (d : D) (post : Store) : Prop :=
  ∀ (E : Env Y) w g vs, Reach E w g → RepL w g vs args → SimS E w g (look pre) → (∀ l, look pre l = none → look post l ≠ none → g.φ l = none) →
    ∃ b c fn tmps as bd, g.φ l = some (some b, c) ∧ (Instr.yield b vs.toArray).run Y.P w = .ok (.round b fn tmps as bd) w ∧
      RoundIn E.F 0 Y.P b fn tmps as bd w (fun e w' => ∃ v g', e = .returned v ∧ Move E (look pre) (look post) w g w' g' ∧ Rep w' g' v d)
/-- A call of yield, as it stands in a walk. -/
inductive YieldRes (Y : Sy) (l : Nat) (args : List D) (S : Store) (nx : Nat) (K : KT) : Prop where
  | touch (pre : Store) (d : D) (post : Store) (nx' : Nat) (h : RdOK Y l args pre d post) (ht : Touch S nx pre post nx') (hK : K d (putAll (delAll S (namesL pre)) post) nx' (namesL pre) (namesL post ++ namesL pre))
def vCallee (f : D) (args : List D) : Option (Nat × List D) := match f with
  | .v (.func (.func k) fi ca) => some (k, fi.toList.map .v ++ args ++ ca.toList.map .v)
  | .fn (.func k) fi ca => some (k, fi ++ args ++ ca)
  | _ => none
def vCall (Y : Sy) (f : D) (args : List D) (S : Store) (nx : Nat) (K : KT) : Prop := match f with
  | .yl l => YieldRes Y l args S nx K
  | f => onSome (vCallee f args) fun p => CallRes Y p.1 p.2 S nx K

theorem vCall_ok {c : Call} {f : Operand} (ho : o.op = .call c) (hc : c.callee = .value f) (h : vCall Y (evD E.gl σ f) (c.args.toList.map (evD E.gl σ)) S nx K) : VopRes E o σ S nx K := by
  have hdef : ∀ c, o.op ≠ .defer c := by rw [ho]; simp
  have hf : f ∈ o.op.operands := by rw [ho]; simp [Op.operands, Call.operands, hc]
  have has : ∀ x ∈ c.args.toList, x ∈ o.op.operands := by intro x hx; rw [ho]; simp [Op.operands, Call.operands, hc]; right; simpa using hx
  unfold vCall at h
  split at h
  · rename_i l hev
    obtain ⟨pre, d, post, nx', hrd, ht, hK⟩ := h
    refine VopRes.touch ht (fun a w g hr hu hs hf' next Q hnext => ?_) hK
    have e1 := rep_eval hr hu hf
    rw [hev] at e1
    simp only [Rep] at e1
    have e2 := repL_map hr hu c.args.toList has
    refine ⟨fun f _ => E.hF f, ?_⟩
    obtain ⟨b, cc, fn, tmps, as, bd, hφ, hy, hround⟩ := hrd E w g _ hr e2 hs hf'
    obtain ⟨b', c', hφ', e1⟩ := e1
    rw [hφ] at hφ'
    cases hφ'
    have hrun : (execOp a.eval o).run E.P w = .ok (.round b fn tmps as bd) w := by
      have : c.args.map a.eval = (c.args.toList.map a.eval).toArray := by apply Array.toList_inj.1; simp
      rw [← this] at hy
      simp [execOp, ho, resolve, hc, e1, Deferred.ofValue, invoke, hy]
    rw [Oper.semAt_eq _ _ _ hdef, hrun, Oper.uponIn_round]
    refine ⟨fun h => (by rw [E.hd] at h; cases h), ?_⟩
    refine hround.mono ?_
    rintro e w' ⟨v, g', rfl, hm, hv⟩
    exact hnext v w' g' hm hv
  obtain ⟨⟨k, args⟩, hcal, h⟩ := h
  have krun : ∀ (a : Act) w g, Reach E w g → (∀ x ∈ useOf o σ, Rep w g (a.tmps.getD x.1 undef) x.2) → ∃ vs, RepL w g vs args ∧ (execOp a.eval o).run E.P w = (callFunc k vs.toArray).run E.P w := by
    intro a w g hr hu
    have e1 := rep_eval hr hu hf
    have e2 := repL_map hr hu c.args.toList has
    unfold vCallee at hcal
    split at hcal
    · rename_i k' fi ca hev
      cases hcal
      rw [hev] at e1
      simp only [Rep] at e1
      refine ⟨fi.toList ++ c.args.toList.map a.eval ++ ca.toList, ((RepL.of_v _).append e2).append (RepL.of_v _), ?_⟩
      have : c.args.map a.eval = (c.args.toList.map a.eval).toArray := by apply Array.toList_inj.1; simp
      have e : (fi.toList ++ c.args.toList.map a.eval ++ ca.toList).toArray = fi ++ c.args.map a.eval ++ ca := by apply Array.toList_inj.1; simp
      rw [e]
      simp [execOp, ho, resolve, hc, e1, Deferred.ofValue, invoke]
    · rename_i k' fi ca hev
      cases hcal
      rw [hev] at e1
      simp only [Rep] at e1
      obtain ⟨v1, v2, e1, r1, r2⟩ := e1
      refine ⟨v1 ++ c.args.toList.map a.eval ++ v2, (r1.append e2).append r2, ?_⟩
      have : c.args.map a.eval = (c.args.toList.map a.eval).toArray := by apply Array.toList_inj.1; simp
      simp [execOp, ho, resolve, hc, e1, Deferred.ofValue, invoke, this]
    · cases hcal
  have key : ∀ {pre post d}, FnOK Y k args pre d post → Acts E o (useOf o σ) pre d post := fun hfn => fn_acts hdef hfn krun
  cases h with
  | pure d h hK => exact VopRes.pure (key h) hK
  | keeps pre d h h1 hK => exact VopRes.keeps h1 (key h) hK
  | ext d h hK =>
    refine VopRes.pure (acts_read hdef fun a w g hr hu _ => ?_) hK
    obtain ⟨vs, hvs, hrun⟩ := krun a w g hr hu
    obtain ⟨v, h1, h2⟩ := h w g vs hvs
    exact ⟨v, by rw [hrun]; exact h1, h2⟩
  | touch pre d post nx' h ht hK => exact VopRes.touch ht (key h) hK

/-! ### Lending what is one's own -/
def shut (d : D) : D := bif free d then d else .any
/-- What it is when the names of S are frozen. -/
def lend (S : Store) : Nat → D → D
  | 0, d => shut d
  | n + 1, d => match d with
    | .own l m => match look S l with
      | some (.row _ size es) => bif decide (m ≤ es.length) then .sl ((es.take m).map fun e => e.map fun c => shut (lend S n c)) size else .own l m
      | _ => .own l m
    | .mp l => match look S l with
      | some (.mp es) => .fmp (es.map (·.1)) (es.map fun e => shut (lend S n e.2))
      | _ => .mp l
    | .ref l 0 => match look S l with
      | some (.box cs) => .ep (cs.map fun c => shut (lend S n c))
      | _ => .ref l 0
    | .agg cs => .agg (cs.map (lend S n))
    | .tup cs => .tup (cs.map (lend S n))
    | .fn f a b => .fn f (a.map (lend S n)) (b.map (lend S n))
    | d => d
def gz (g : G) (S : Store) : G := ⟨fun b => g.Z b ∨ ownC g (look S) b, g.φ⟩
theorem shut_free (d : D) : free (shut d) = true := by
  unfold shut
  cases h : free d with
  | true => simpa using h
  | false => rfl
theorem rep_shut {w : World} {g : G} {x : Value} {d : D} (h : Rep w g x d) : Rep w g.cl x (shut d) := by
  unfold shut
  cases hf : free d with
  | true => exact h.toCl hf
  | false => simp [Rep]
theorem repL_shut {w : World} {g : G} {f : D → D} : ∀ {xs : List Value} {ds : List D}, RepL w g xs (ds.map f) → RepL w g.cl xs (ds.map fun c => shut (f c))
  | [], [], _ => by simp [RepL]
  | [], _ :: _, h => by simp [RepL] at h
  | _ :: _, [], h => by simp [RepL] at h
  | x :: xs, d :: ds, h => by
    simp only [List.map_cons, RepL] at h ⊢
    exact ⟨rep_shut h.1, repL_shut h.2⟩
theorem repL_mapD {w : World} {g g' : G} {f : D → D} (hf : ∀ {x d}, Rep w g x d → Rep w g' x (f d)) : ∀ {xs : List Value} {ds : List D}, RepL w g xs ds → RepL w g' xs (ds.map f)
  | [], [], _ => by simp [RepL]
  | [], _ :: _, h => by simp [RepL] at h
  | _ :: _, [], h => by simp [RepL] at h
  | x :: xs, d :: ds, h => by
    simp only [List.map_cons, RepL] at h ⊢
    exact ⟨hf h.1, repL_mapD hf h.2⟩
theorem Rep.toGz {w : World} {g : G} {S : Store} {x : Value} {d : D} (h : Rep w g x d) : Rep w (gz g S) x d :=
  Rep.up (g := g) (g' := gz g S) (fun _ h => .inl h) (fun _ _ h => h) h

theorem lend_ok {w : World} {g : G} {S : Store} (hs : SimS E w g (look S)) : ∀ (n : Nat) {x : Value} {d : D}, Rep w g x d → Rep w (gz g S) x (lend S n d)
  | 0, x, d, h => by
    unfold lend
    exact (rep_shut h.toGz).ofCl
  | n + 1, x, d, h => by
    have ih := fun {x d} => lend_ok hs n (x := x) (d := d)
    unfold lend
    split
    · rename_i l m
      split
      · rename_i e size es hl
        cases hm : decide (m ≤ es.length) with
        | false => exact h.toGz
        | true =>
          simp only [cond_true]
          have hm' : m ≤ es.length := of_decide_eq_true hm
          obtain ⟨⟨p, pc⟩, hp, ho, _⟩ := hs.obj l _ hl
          simp only [Rep] at h ⊢
          rcases h with ⟨b, c, hφ, hn, rfl⟩ | ⟨hφ, rfl, rfl⟩
          · rw [hp] at hφ
            cases hφ
            rcases ho with ⟨h1, _⟩ | ⟨b', arr, h1, h2, h3, h4, h5, h6, h7⟩
            · cases h1
            · cases h1
              refine ⟨some ⟨b, 0, none⟩, pc, by simp [Nat.min_eq_left hm'], by simp; omega, h4, ?_, fun _ => ⟨_, rfl, .inr ⟨l, pc, by simp [hl], hp⟩, ?_⟩⟩
              · intro e' he'
                obtain ⟨e0, he0, rfl⟩ := List.mem_map.1 he'
                simpa using h6 e0 (List.mem_of_mem_take he0)
              · refine RepE.of_get fun i e' hi => ?_
                rw [List.getElem?_map] at hi
                simp only [Option.map_eq_some_iff] at hi
                obtain ⟨e0, he0, rfl⟩ := hi
                have he1 : es[i]? = some e0 := by
                  rw [List.getElem?_take] at he0
                  split at he0
                  · exact he0
                  · cases he0
                obtain ⟨vs, hc, hv⟩ := h7.get he1
                exact ⟨vs, hc, repL_shut (f := lend S n) (repL_mapD (fun h => ih h) hv)⟩
          · exact ⟨none, 0, by simp, by simp, by unfold maxLen; omega, by simp, by simp⟩
      · exact h.toGz
    · rename_i l
      split
      · rename_i es hl
        obtain ⟨⟨p, pc⟩, hp, ho, _⟩ := hs.obj l _ hl
        simp only [Rep] at h ⊢
        obtain ⟨b, c, hφ, rfl⟩ := h
        rw [hp] at hφ
        cases hφ
        obtain ⟨b', arr, clock, h1, h2, h3, h4, h5, h6⟩ := ho
        cases h1
        refine ⟨b, arr, clock, rfl, .inr ⟨l, pc, by simp [hl], hp⟩, h2, h3, ?_, h5, h6⟩
        have := repL_shut (f := lend S n) (repL_mapD (g' := gz g S) (fun h => ih h) h4)
        rw [List.map_map] at this
        exact this
      · exact h.toGz
    · rename_i l
      split
      · rename_i cs hl
        obtain ⟨⟨p, pc⟩, hp, ho, _⟩ := hs.obj l _ hl
        simp only [Rep] at h ⊢
        obtain ⟨b, c, hφ, rfl⟩ := h
        rw [hp] at hφ
        cases hφ
        obtain ⟨b', arr, t, h1, h2, h3⟩ := ho
        cases h1
        have hc := cellsAt_block h2 0
        rw [List.drop_zero] at hc
        exact ⟨_, arr.toList, rfl, .inr ⟨l, pc, by simp [hl], hp⟩, hc, repL_shut (f := lend S n) (repL_mapD (g' := gz g S) (fun h => ih h) h3)⟩
      · exact h.toGz
    · simp only [Rep] at h ⊢
      obtain ⟨v1, rfl, h1⟩ := h
      exact ⟨v1, rfl, repL_mapD (fun h => ih h) h1⟩
    · simp only [Rep] at h ⊢
      obtain ⟨v1, rfl, h1⟩ := h
      exact ⟨v1, rfl, repL_mapD (fun h => ih h) h1⟩
    · simp only [Rep] at h ⊢
      obtain ⟨v1, v2, rfl, h1, h2⟩ := h
      exact ⟨v1, v2, rfl, repL_mapD (fun h => ih h) h1, repL_mapD (fun h => ih h) h2⟩
    · exact h.toGz

theorem wf_gz {w : World} {g : G} {S : Store} (h : WF w g) : WF w (gz g S) := by
  refine ⟨fun b hb => ?_, h.flt⟩
  rcases hb with hb | ⟨l, x, _, hb⟩
  · exact h.zlt b hb
  · exact h.flt l b x hb

def plainD : D → Bool
  | .v _ | .s _ => true
  | .tup ds => ds.all fun | .v _ | .s _ => true | _ => false
  | _ => false
theorem rep_plain {w w' : World} {g g' : G} {v : Value} {d : D} (hd : plainD d = true) (h : Rep w g v d) : Rep w' g' v d := by
  unfold plainD at hd
  split at hd
  · simpa [Rep] using h
  · simpa [Rep] using h
  · rename_i ds
    simp only [Rep] at h ⊢
    obtain ⟨vs, rfl, h⟩ := h
    refine ⟨vs, rfl, ?_⟩
    revert vs
    induction ds with
    | nil => intro vs h; simpa [RepL.nil_iff] using h
    | cons d ds ih =>
      intro vs h
      simp only [List.all_cons, Bool.and_eq_true] at hd
      obtain ⟨x, r, rfl, h1, h2⟩ := RepL.cons_iff.1 h
      simp only [RepL]
      refine ⟨?_, ih hd.2 r h2⟩
      cases d <;> simp at hd <;> simpa [Rep] using h1
  · cases hd

/-- The world in which a call begins. -/
def Env.at {Y : Sy} (E : Env Y) (F : Fence) (hF : ∀ f, F.fn f) (hd : F.depth = none) (hal : F.alive = false) (N : Nat) (w : World) (g : G) (hr : Reach E w g) (own : Nat → Prop) (g' : G) (hZ : ∀ b, g.Z b → g'.Z b) (hz : ∀ b, g'.Z b → ¬ own b) (hw : WF w g') : Env Y where
  F := F.plain
  hF := hF
  hd := hd
  hal := hal
  N := N
  w0 := w
  g0 := g'
  own0 := own
  hz0 := hz
  wf0 := hw
  hgl i := Rep.up (g := g.cl) (g' := g'.cl) hZ (fun _ _ h => h) ((E.hgl i).tr hr.tr.cl E.wf0.cl E.hz0)
  rd := none
  hrd := rfl

/-- A function that changes nothing and hands back a plain value takes what is the caller's own, too. -/
theorem FnOK.lend {k : Nat} {args : List D} {pre : Store} {d : D} (n : Nat) (hf : FnOK Y k (args.map (Abs.lend pre n)) [] d []) (hd : plainD d = true) : FnOK Y k args pre d pre := by
  refine ⟨hf.1, fun E w g vs hr hvs hs _ => ?_⟩
  let E1 : Env Y := E.at E.F E.hF E.hd E.hal 0 w g hr (fun _ => False) (gz g pre) (fun _ h => .inl h) (fun _ _ h => h) (wf_gz hr.wf)
  have hr1 : Reach E1 w (gz g pre) := ⟨Tr.refl _ _ _, wf_gz hr.wf⟩
  refine (hf.2 E1 w (gz g pre) vs hr1 (repL_mapD (fun h => lend_ok hs n h) hvs) simS_nil (fun l _ h => by simp [look] at h)).mono ?_
  rintro e w' ⟨v, g', rfl, hm, hv⟩
  have hkeep : ∀ b, b < w.heap.size → w'.heap[b]? = w.heap[b]? := fun b hb => hm.tr.keep b hb (by rintro ⟨l, x, h, _⟩; simp [look] at h)
  have htr : ∀ own, Tr own w g w' g := fun own => ⟨hm.tr.os, hm.tr.tape, hm.tr.output, hm.tr.size, fun b hb _ => hkeep b hb, fun _ h => h, fun _ h _ _ => h, fun _ _ h => h, fun l b c h1 h2 => by rw [h1] at h2; cases h2⟩
  refine ⟨v, g, rfl, ⟨htr _, ⟨fun b hb => ?_, fun l b c h => ?_⟩, ⟨fun l ob hl => ?_, hs.apart⟩, fun _ h => .inl h⟩, rep_plain hd hv⟩
  · have := hr.wf.zlt b hb; have := hm.tr.size; omega
  · have := hr.wf.flt l b c h; have := hm.tr.size; omega
  · obtain ⟨p, hp, ho, hn⟩ := hs.obj l ob hl
    exact ⟨p, hp, ho.tr (own := fun _ => False) (htr _) hr.wf (fun _ _ h => h) (fun b hb => ⟨fun h => h, by obtain ⟨p1, p2⟩ := p; simp only at hb; subst hb; exact hr.wf.flt l b p2 hp⟩), hn⟩
end calls
end Go.Abs
