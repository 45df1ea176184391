/- An abstract walk over the model: what a function does, as a computation on described values; proved once for all functions. -/
import Derived.Test.YtjgooecohepkoaaGreatDoorEAG
set_option linter.unusedVariables false
set_option linter.unusedSimpArgs false
namespace Go.Abs
open Go

/-! ### Other names -/
mutual
def subD (θ : Nat → Option Nat) : D → D
  | .ref l off => match θ l with | some l' => .ref l' off | none => .any
  | .oel l s i j => match θ l with | some l' => .oel l' s i j | none => .any
  | .own l n => match θ l with | some l' => .own l' n | none => .any
  | .mp l => match θ l with | some l' => .mp l' | none => .any
  | .it l => match θ l with | some l' => .it l' | none => .any
  | .yl l => match θ l with | some l' => .yl l' | none => .any
  | .fn f a b => .fn f (subL θ a) (subL θ b)
  | .agg cs => .agg (subL θ cs)
  | .tup cs => .tup (subL θ cs)
  | d => d
def subL (θ : Nat → Option Nat) : List D → List D
  | [] => []
  | d :: r => subD θ d :: subL θ r
end
def subO (θ : Nat → Option Nat) : AO → AO
  | .box cs => .box (subL θ cs)
  | .row e size es => .row e size (es.map (subL θ))
  | .mp es => .mp (es.map fun x => (x.1, subD θ x.2))
  | .lp s pd σ n ps a b => .lp s pd (mapT (subD θ) σ) n ps a b
  | o => o

section
variable {w : World} {g g' : G} {θ : Nat → Option Nat}
mutual
theorem Rep.sub (hz : ∀ b, g.Z b → g'.Z b) (hθ : ∀ l l' p, θ l = some l' → g.φ l = some p → g'.φ l' = some p) : ∀ {x : Value} {d : D}, Rep w g x d → Rep w g' x (subD θ d)
  | _, .any, _ => by simp [Rep, subD]
  | _, .v _, hx => by simpa [Rep, subD] using hx
  | _, .s _, hx => by simpa [Rep, subD] using hx
  | _, .sl es size, hx => by
    simp only [subD]
    exact Rep.free hz (by simp [Abs.free]) hx
  | _, .ep cs, hx => by
    simp only [subD]
    exact Rep.free hz (by simp [Abs.free]) hx
  | _, .fmp ks ds, hx => by
    simp only [subD]
    exact Rep.free hz (by simp [Abs.free]) hx
  | _, .ref l _, hx => by
    simp only [subD]
    cases h : θ l with
    | none => simp [Rep]
    | some l' =>
      simp only [Rep] at hx ⊢
      obtain ⟨b, c, hp, rfl⟩ := hx
      exact ⟨b, c, hθ _ _ _ h hp, rfl⟩
  | _, .oel l _ _ _, hx => by
    simp only [subD]
    cases h : θ l with
    | none => simp [Rep]
    | some l' =>
      simp only [Rep] at hx ⊢
      obtain ⟨b, c, hp, rfl⟩ := hx
      exact ⟨b, c, hθ _ _ _ h hp, rfl⟩
  | _, .mp l, hx => by
    simp only [subD]
    cases h : θ l with
    | none => simp [Rep]
    | some l' =>
      simp only [Rep] at hx ⊢
      obtain ⟨b, c, hp, rfl⟩ := hx
      exact ⟨b, c, hθ _ _ _ h hp, rfl⟩
  | _, .it l, hx => by
    simp only [subD]
    cases h : θ l with
    | none => simp [Rep]
    | some l' =>
      simp only [Rep] at hx ⊢
      obtain ⟨b, c, hp, rfl⟩ := hx
      exact ⟨b, c, hθ _ _ _ h hp, rfl⟩
  | _, .yl l, hx => by
    simp only [subD]
    cases h : θ l with
    | none => simp [Rep]
    | some l' =>
      simp only [Rep] at hx ⊢
      obtain ⟨b, c, hp, rfl⟩ := hx
      exact ⟨b, c, hθ _ _ _ h hp, rfl⟩
  | _, .own l _, hx => by
    simp only [subD]
    cases h : θ l with
    | none => simp [Rep]
    | some l' =>
      simp only [Rep] at hx ⊢
      rcases hx with ⟨b, c, hp, hn, rfl⟩ | ⟨hp, hn, rfl⟩
      · exact .inl ⟨b, c, hθ _ _ _ h hp, hn, rfl⟩
      · exact .inr ⟨hθ _ _ _ h hp, hn, rfl⟩
  | _, .fn _ _ _, hx => by
    simp only [Rep, subD] at hx ⊢
    obtain ⟨v1, v2, rfl, h1, h2⟩ := hx
    exact ⟨v1, v2, rfl, RepL.sub hz hθ h1, RepL.sub hz hθ h2⟩
  | _, .agg _, hx => by
    simp only [Rep, subD] at hx ⊢
    obtain ⟨v1, rfl, h1⟩ := hx
    exact ⟨v1, rfl, RepL.sub hz hθ h1⟩
  | _, .tup _, hx => by
    simp only [Rep, subD] at hx ⊢
    obtain ⟨v1, rfl, h1⟩ := hx
    exact ⟨v1, rfl, RepL.sub hz hθ h1⟩
theorem RepL.sub (hz : ∀ b, g.Z b → g'.Z b) (hθ : ∀ l l' p, θ l = some l' → g.φ l = some p → g'.φ l' = some p) : ∀ {xs : List Value} {ds : List D}, RepL w g xs ds → RepL w g' xs (subL θ ds)
  | [], [], _ => by simp [RepL, subL]
  | [], _ :: _, hx => by simp [RepL] at hx
  | _ :: _, [], hx => by simp [RepL] at hx
  | x :: xs, d :: ds, hx => by
    simp only [RepL, subL] at hx ⊢
    exact ⟨Rep.sub hz hθ hx.1, RepL.sub hz hθ hx.2⟩
end
theorem subL_length : ∀ (ds : List D), (subL θ ds).length = ds.length
  | [] => rfl
  | _ :: r => by simp [subL, subL_length r]
theorem RepE.sub (hz : ∀ b, g.Z b → g'.Z b) (hθ : ∀ l l' p, θ l = some l' → g.φ l = some p → g'.φ l' = some p) {ad : Addr} {size : Nat} : ∀ {k : Nat} {es : List (List D)}, RepE w g ad size k es → RepE w g' ad size k (es.map (subL θ))
  | _, [], _ => by simp [RepE]
  | k, e :: r, hx => by
    simp only [RepE, List.map_cons] at hx ⊢
    obtain ⟨⟨vs, hc, hl⟩, hr⟩ := hx
    exact ⟨⟨vs, hc, hl.sub hz hθ⟩, hr.sub hz hθ⟩
theorem ObjRep.sub (hz : ∀ b, g.Z b → g'.Z b) (hθ : ∀ l l' p, θ l = some l' → g.φ l = some p → g'.φ l' = some p) {p : Option Nat × Nat} : ∀ {o : AO}, ObjRep w g p o → ObjRep w g' p (subO θ o)
  | .box cs, ⟨b, arr, t, h1, h2, h3⟩ => ⟨b, arr, t, h1, h2, h3.sub hz hθ⟩
  | .row e size es, h => by
    rcases h with ⟨h1, rfl⟩ | ⟨b, arr, h1, h2, h3, h4, h5, h6, h7⟩
    · exact .inl ⟨h1, rfl⟩
    · refine .inr ⟨b, arr, h1, h2, by simpa using h3, h4, h5, ?_, h7.sub hz hθ⟩
      intro e he
      obtain ⟨e', he', rfl⟩ := List.mem_map.1 he
      rw [subL_length]; exact h6 e' he'
  | .mp es, ⟨b, arr, clock, h1, h2, h3, h4, h5⟩ => by
    refine ⟨b, arr, clock, h1, h2, by simpa [Function.comp_def] using h3, ?_, h5⟩
    have := h4.sub (g' := g') hz hθ
    have e : subL θ (es.map (·.2)) = (es.map fun x => (x.1, subD θ x.2)).map (·.2) := by
      clear h3 h4 this
      induction es with
      | nil => rfl
      | cons x r ih => simp [subL, ih]
    rw [e] at this
    exact this
  | .si s pos, h => h
  | .lp _ _ _ _ _ _ _, ⟨b, r, q1, q2, q3, q4, q5, q6, q7, q8⟩ => ⟨b, r, q1, q2, q3, q4, q5, q6, q7, q8.mapT fun _ _ h => h.sub hz hθ⟩
end

/-- (new, old) pairs. -/
def oldOf : List (Nat × Nat) → Nat → Option Nat
  | [], _ => none
  | (n, o) :: r, l => if n = l then some o else oldOf r l
def newOf : List (Nat × Nat) → Nat → Option Nat
  | [], _ => none
  | (n, o) :: r, l => if o = l then some n else newOf r l
/-- The new names are different ones, and so are the old ones. -/
def injB : List (Nat × Nat) → Bool
  | [] => true
  | (n, o) :: r => r.all (fun x => !Nat.beq x.1 n && !Nat.beq x.2 o) && injB r
theorem newOf_mem {m : List (Nat × Nat)} {l n : Nat} (h : newOf m l = some n) : (n, l) ∈ m := by
  induction m with
  | nil => simp [newOf] at h
  | cons x r ih =>
    obtain ⟨a, b⟩ := x
    simp only [newOf] at h
    split at h
    · rename_i e; cases h; subst e; simp
    · exact List.mem_cons_of_mem _ (ih h)
theorem oldOf_mem {m : List (Nat × Nat)} {n o : Nat} (h : oldOf m n = some o) : (n, o) ∈ m := by
  induction m with
  | nil => simp [oldOf] at h
  | cons x r ih =>
    obtain ⟨a, b⟩ := x
    simp only [oldOf] at h
    split at h
    · rename_i e; cases h; subst e; simp
    · exact List.mem_cons_of_mem _ (ih h)
theorem oldOf_of {m : List (Nat × Nat)} (hi : injB m = true) {n o : Nat} (h : (n, o) ∈ m) : oldOf m n = some o := by
  induction m with
  | nil => simp at h
  | cons x r ih =>
    obtain ⟨a, b⟩ := x
    simp only [injB, Bool.and_eq_true, List.all_eq_true] at hi
    simp only [oldOf]
    rcases List.mem_cons.1 h with h | h
    · cases h; simp
    · have := hi.1 _ h
      simp only [Bool.not_eq_true'] at this
      have h1 : n ≠ a := by intro e; subst e; simp at this
      rw [if_neg (Ne.symm h1)]
      exact ih hi.2 h
theorem newOf_of {m : List (Nat × Nat)} (hi : injB m = true) {n o : Nat} (h : (n, o) ∈ m) : newOf m o = some n := by
  induction m with
  | nil => simp at h
  | cons x r ih =>
    obtain ⟨a, b⟩ := x
    simp only [injB, Bool.and_eq_true, List.all_eq_true] at hi
    simp only [newOf]
    rcases List.mem_cons.1 h with h | h
    · cases h; simp
    · have := hi.1 _ h
      simp only [Bool.not_eq_true'] at this
      have h1 : o ≠ b := by intro e; subst e; simp at this
      rw [if_neg (Ne.symm h1)]
      exact ih hi.2 h

/-- The store under other names; what is not named goes. -/
def subS (m : List (Nat × Nat)) (S : Store) : List (Nat × Nat) → Store
  | [] => []
  | (n, o) :: r => match look S o with
    | some ob => (n, subO (newOf m) ob) :: subS m S r
    | none => subS m S r
theorem look_subS {m : List (Nat × Nat)} {S : Store} {l : Nat} {ob : AO} : ∀ {r : List (Nat × Nat)}, look (subS m S r) l = some ob → ∃ o ob', (l, o) ∈ r ∧ look S o = some ob' ∧ ob = subO (newOf m) ob'
  | [], h => by simp [subS, look] at h
  | (n, o) :: r, h => by
    simp only [subS] at h
    split at h
    · rename_i ob' hob
      simp only [look] at h
      split at h
      · rename_i e; subst e; cases h
        exact ⟨o, ob', by simp, hob, rfl⟩
      · obtain ⟨o', ob2, h1, h2, h3⟩ := look_subS h
        exact ⟨o', ob2, by simp [h1], h2, h3⟩
    · obtain ⟨o', ob2, h1, h2, h3⟩ := look_subS h
      exact ⟨o', ob2, by simp [h1], h2, h3⟩

/-! ### States -/
structure St where
  σ : List (Nat × D)
  S : Store
  nx : Nat
  ds : List Deferred

structure SimA {Y : Sy} (E : Env Y) (st : St) (a : Act) (w : World) (g : G) : Prop where
  rc : Reach E w g
  tm : ∀ t, Rep w g (a.tmps.getD t undef) (getT st.σ t)
  ss : SimS E w g (look st.S)
  sz : a.tmps.size = E.N
  df : Marks E.w0.heap.size w g a.defers
  nm : ∀ l, g.φ l ≠ none → l < st.nx

def SQ {Y : Sy} (E : Env Y) (Q : Exit → St → Prop) : Exit → Act → World → Prop := fun e a w => ∃ st g, Q e st ∧ SimA E st a w g

/-- From the state st the code ends as Q says. -/
def W {Y : Sy} (E : Env Y) (c : Code) (st : St) (Q : Exit → St → Prop) : Prop := ∀ a w g, SimA E st a w g → c.wpIn E.F 0 E.P (SQ E Q) a w

/-- What is known in st' is known in st, perhaps under other names. -/
def Into {Y : Sy} (E : Env Y) (st st' : St) : Prop := ∀ a w g, SimA E st a w g → ∃ g', SimA E st' a w g'

section rules
variable {Y : Sy} {E : Env Y} {st st' : St} {Q Q' : Exit → St → Prop} {c c' : Code}

theorem Into.refl : Into E st st := fun _ _ g h => ⟨g, h⟩
theorem Into.trans {st'' : St} (h : Into E st st') (h' : Into E st' st'') : Into E st st'' := fun a w g hs => let ⟨g', hs'⟩ := h a w g hs; h' a w g' hs'

theorem W.mono (h : W E c st Q) (hq : ∀ e st, Q e st → Q' e st) : W E c st Q' := fun a w g hs =>
  wpIn_mono (h a w g hs) fun _ _ _ ⟨st, g, q, s⟩ => ⟨st, g, hq _ _ q, s⟩
theorem W.into (h : Into E st st') (hc : W E c st' Q) : W E c st Q := fun a w g hs => let ⟨g', hs'⟩ := h a w g hs; hc a w g' hs'

def thenQ (N : St → Prop) (Q : Exit → St → Prop) : Exit → St → Prop
  | .normal, st => N st
  | e, st => Q e st
def blockQ (id : Nat) (Q : Exit → St → Prop) : Exit → St → Prop
  | .exit id', st => if id' = id then Q .normal st else Q (.exit id') st
  | e, st => Q e st
def scopeQ (Q : Exit → St → Prop) : Exit → St → Prop
  | .goto _, _ => False
  | e, st => Q e st

theorem W.skip (h : Q .normal st) : W E .skip st Q := fun _ _ g hs => wpIn_skip ⟨st, g, h, hs⟩
theorem W.exit {id : Nat} (h : Q (.exit id) st) : W E (.exit id) st Q := fun _ _ g hs => wpIn_exit ⟨st, g, h, hs⟩
theorem W.label {id : Nat} (h : Q .normal st) : W E (.label id) st Q := fun _ _ g hs => wpIn_label ⟨st, g, h, hs⟩
theorem W.goto {id : Nat} (h : Q (.goto id) st) : W E (.goto id) st Q := fun _ _ g hs => wpIn_goto ⟨st, g, h, hs⟩
theorem W.ret (h : Q .ret st) : W E .ret st Q := fun _ _ g hs => wpIn_ret ⟨st, g, h, hs⟩
theorem W.seq (h : W E c st (thenQ (fun st' => W E c' st' Q) Q)) : W E (.seq c c') st Q := fun a w g hs => by
  refine wpIn_seq (wpIn_mono (h a w g hs) ?_)
  rintro e a' w' ⟨st', g', q, s⟩
  cases e with
  | normal => exact q a' w' g' s
  | _ => exact ⟨st', g', q, s⟩
theorem W.block {id : Nat} (h : W E c st (blockQ id Q)) : W E (.block id c) st Q := fun a w g hs => by
  refine wpIn_block (wpIn_mono (h a w g hs) ?_)
  rintro e a' w' ⟨st', g', q, s⟩
  cases e with
  | exit id' =>
    simp only [blockQ, Exit.inBlock] at q ⊢
    split
    · rename_i e; simp only [e, if_true] at q; exact ⟨st', g', q, s⟩
    · rename_i e; simp only [e, if_false] at q; exact ⟨st', g', q, s⟩
  | _ => exact ⟨st', g', q, s⟩
theorem W.cond {x : Operand} {q : Bool} (hx : evD E.gl st.σ x = .v (.bool q)) (h1 : q = true → W E c st Q) (h2 : q = false → W E c' st Q) : W E (.cond x c c') st Q := fun a w g hs => by
  have hev : a.eval x = .bool q := by
    have : Rep w g (a.eval x) (evD E.gl st.σ x) := by
      cases x with
      | tmp t => exact hs.tm t
      | const v => exact rep_constD w g v
      | global i => exact ((E.hgl i).tr hs.rc.tr.cl E.wf0.cl E.hz0).ofCl
      | func f => simp [evD, Rep, Act.eval]
    rw [hx] at this
    simpa [Rep] using this
  cases q with
  | true => exact wpIn_cond hev (h1 rfl a w g hs)
  | false => exact wpIn_cond hev (h2 rfl a w g hs)

/-- A loop: a family of states, with a measure. -/
theorem W.loop {α : Type} (inv : α → St) (m : α → Nat) (x0 : α) (h0 : Into E st (inv x0)) (h : ∀ x, W E c (inv x) (thenQ (fun st' => ∃ y, m y < m x ∧ Into E st' (inv y)) Q)) : W E (.loop c) st Q := by
  classical
  intro a w g hs
  let R : Act → World → Nat → Prop := fun a w k => ∃ x g, SimA E (inv x) a w g ∧ m x = k
  have least : ∀ a w k, R a w k → ∃ j, R a w j ∧ ∀ i, R a w i → j ≤ i := by
    intro a w k
    induction k using Nat.strongRecOn with
    | _ k ih =>
      intro hk
      by_cases h : ∃ j, j < k ∧ R a w j
      · obtain ⟨j, hj, hR⟩ := h
        exact ih j hj hR
      · refine ⟨k, hk, fun i hi => ?_⟩
        rcases Nat.lt_or_ge i k with h1 | h1
        · exact absurd ⟨i, h1, hi⟩ h
        · exact h1
  let μ : Act → World → Nat := fun a w => if h : ∃ j, R a w j ∧ ∀ i, R a w i → j ≤ i then Classical.choose h else 0
  have hμ : ∀ a w k, R a w k → R a w (μ a w) ∧ μ a w ≤ k := by
    intro a w k hk
    have he := least a w k hk
    simp only [μ, he, dite_true]
    exact ⟨(Classical.choose_spec he).1, (Classical.choose_spec he).2 k hk⟩
  obtain ⟨g0, hs0⟩ := h0 a w g hs
  refine wpIn_loop (fun a w => ∃ k, R a w k) μ ⟨_, x0, g0, hs0, rfl⟩ ?_
  rintro a w ⟨k, hk⟩
  obtain ⟨⟨x, g, hsx, hx⟩, _⟩ := hμ a w k hk
  refine wpIn_mono (h x a w g hsx) ?_
  rintro e a' w' ⟨st', g', q, s⟩
  cases e with
  | normal =>
    obtain ⟨y, hy, hi⟩ := q
    obtain ⟨g2, hs2⟩ := hi a' w' g' s
    have hr : R a' w' (m y) := ⟨y, g2, hs2, rfl⟩
    exact ⟨⟨_, hr⟩, by have := (hμ a' w' _ hr).2; omega⟩
  | _ => exact ⟨st', g', q, s⟩
end rules
end Go.Abs
namespace Go.Abs
open Go
section
variable {Y : Sy} {E : Env Y} {st st' : St} {Q Q' : Exit → St → Prop} {c c' : Code}

theorem tr_drawn {own : Nat → Prop} (w : World) (g : G) (k : Nat) : Tr own w g { w with drawn := k } g :=
  ⟨rfl, rfl, rfl, Nat.le_refl _, fun _ _ _ => rfl, fun _ h => h, fun _ h _ _ => h, fun _ _ h => h, fun l b c h1 h2 => by rw [h1] at h2; cases h2⟩
theorem SimA.drawn {a : Act} {w : World} {g : G} (h : SimA E st a w g) (k : Nat) : SimA E st a { w with drawn := k } g := by
  have htr : Tr (fun _ => False) w g { w with drawn := k } g := tr_drawn w g k
  refine ⟨⟨h.rc.tr.trans htr (fun _ _ h => h.elim), ⟨h.rc.wf.zlt, h.rc.wf.flt⟩⟩, fun t => (h.tm t).tr htr h.rc.wf (fun _ _ h => h), ⟨fun l o ho => ?_, h.ss.apart⟩, h.sz, h.df.tr htr h.rc.wf (fun _ _ h => h), h.nm⟩
  obtain ⟨p, hp, hob, hn⟩ := h.ss.obj l o ho
  refine ⟨p, hp, hob.tr htr h.rc.wf (fun _ _ h => h) (fun b hb => ⟨fun h => h, ?_⟩), hn⟩
  obtain ⟨p1, p2⟩ := p
  simp only at hb
  subst hb
  exact h.rc.wf.flt l b p2 hp

theorem W.region {id : Nat} {ops : Array Oper} {draw : Bool} {N : Nat} (fz : List Nat) (hN : E.N = N)
    (h : vops E N fz ops draw (fun σ S nx => Q .normal ⟨σ, S, nx, st.ds⟩) ops.toList st.σ st.S st.nx []) : W E (.region id ops draw) st Q := by
  let f0 : Loc → Option Cn := fun | .inl t => some (.inl (getT st.σ t)) | .inr l => (look st.S l).map .inr
  have hmt0 : Mt f0 st.σ st.S := by
    refine ⟨fun t => rfl, fun l => ?_⟩
    simp only [fS, f0]
    cases look st.S l <;> rfl
  obtain ⟨acc', hchk⟩ := dst_ok h
  have hdst : ∀ o ∈ ops.toList, ∀ t, o.dst = some t → t < N := by
    intro o ho t ht
    simp only [chk, Bool.and_eq_true, List.all_eq_true] at hchk
    have := hchk.1 o ho
    rw [ht] at this
    simpa [Nat.blt_eq] using this
  have hrn : rn ops f0 [] = f0 := by simp [rn, acs, run]
  obtain ⟨sds, nw, σ', S', _, p2, p3, p4, p5, p6, p7, p8, p9⟩ := vops_ok (E := E) (f0 := f0) hN hdst ops.toList [] [] st.σ st.S st.nx [] (by simp) rfl rfl (by simp [sks]) (by rw [hrn]; exact hmt0) h
  have htake : ∀ i, acs ops (sds.take i) = (acs ops sds).take i := by
    intro i
    unfold acs
    rw [List.take_zipWith]
    have : List.zipWith (acOf ops) ops.toList (sds.take i) = List.zipWith (acOf ops) (ops.toList.take i) (sds.take i) := by
      by_cases hi : ops.toList.length ≤ i
      · rw [List.take_of_length_le hi]
      · rw [← List.take_append_drop i ops.toList]
        have e := List.zipWith_append (f := acOf ops) (l₁ := ops.toList.take i) (l₁' := ops.toList.drop i) (l₂ := sds.take i) (l₂' := []) (by simp at hi ⊢; omega)
        simp only [List.append_nil, List.zipWith_nil_right] at e
        rw [e]
        congr 1
        rw [List.take_append_drop]
    exact this
  have hp : Plan E ops sds f0 nw := ⟨p2, fun i o sd ho hsd => by have := p5 i o sd (by simp) ho hsd; unfold rn at this; rwa [htake] at this, fun i => p4 i (by simp), fun i use p d q chg hs => p6 i use p d q chg (by simp) hs⟩
  intro a w g hs
  have hQ : ∀ (ds : List Deferred) a w g, Reach E w g → StOK E ds a w g (run (acs ops sds) (fun _ => true) 0 f0) → (∀ l, g.φ l ≠ none → l < nw ops.size) → SQ E Q .normal a w := by
    intro ds a w g hr hst hn
    refine ⟨_, g, p8, hr, fun t => ?_, ?_, hst.sz, hst.df ▸ hst.mks, hn⟩
    · have := hst.tm t
      have e := p7.t t
      unfold rn at e
      rwa [e] at this
    · have : fS (run (acs ops sds) (fun _ => true) 0 f0) = look S' := funext p7.s
      rw [← this]
      exact hst.st
  have hst : ∀ a w g, SimA E st a w g → StOK E a.defers a w g f0 := by
    intro a w g hs
    refine ⟨fun t => by rw [hmt0.t]; exact hs.tm t, ?_, hs.sz, rfl, hs.df⟩
    have : fS f0 = look st.S := funext hmt0.s
    rw [this]; exact hs.ss
  have hnw : nw 0 = st.nx := by simpa using p3
  cases draw with
  | false =>
    refine wpIn_region ?_
    rw [List.range_eq_range']
    refine plan_lex hp (hQ a.defers) ops.size 0 (by omega) a w g hs.rc ?_ ?_
    · simp only [List.take_zero, run]; exact hst a w g hs
    · intro l hl
      exact .inl (by rw [hnw]; exact hs.nm l hl)
  | true =>
    obtain ⟨hb, ho⟩ := p9 rfl
    refine wpIn_region_any E.hm ?_
    have hs' := hs.drawn (w.drawn + 1)
    refine plan_any hp (ordered_of ho) hb (hQ a.defers) ops.size (Array.replicate ops.size false) (List.range ops.size) (by simp) (by simp) (fun k hk _ => by simpa using hk) ?_ a _ g hs'.rc ?_ ?_
    · intro j o e h1
      have : (Array.replicate ops.size false).getD j false = false := by
        simp [Array.getD_eq_getD_getElem?, Array.getElem?_replicate]
        split <;> rfl
      rw [this] at h1; cases h1
    · have : run (acs ops sds) (fun k => (Array.replicate ops.size false).getD k false) 0 f0 = f0 := by
        funext l
        refine run_not ?_ 
        intro k b hk _
        simp [Array.getD_eq_getD_getElem?, Array.getElem?_replicate]
        split <;> rfl
      rw [this]
      exact hst a _ g hs'
    · intro l hl
      exact .inl (by rw [hnw]; exact hs.nm l hl)

theorem W.scope (h : W E c st (scopeQ Q)) : W E (.scope c) st Q := fun a w g hs => by
  intro b k cs hro hb hr
  have h0 : (lone (b.atR a (.code (.scope c) :: k)) cs w).fenced E.P E.F := fenced_calm hb hr rfl
  obtain ⟨e, a₁, w₁, hq, harr⟩ := h a w g hs b (.inScope c :: k) cs hro hb hr
  have s1 : step E.P (lone (b.atR a (.code (.scope c) :: k)) cs w) = .next (lone (b.atR a (.code c :: .inScope c :: k)) cs w) := step_lone_go (by simp [stepG, stepG.exec, Frame.atR])
  have s2 : ∀ a w, step E.P (lone (b.atR a (.inScope c :: k)) cs w) = .next (lone (b.atR a k) cs w) := fun a w => step_lone_go (by simp [stepG, stepG.exec, Frame.atR])
  cases e with
  | normal => exact ⟨.normal, a₁, w₁, hq, .head h0 s1 (StepsIn.trans harr (.one (fenced_calm hb hr rfl) (s2 _ _)))⟩
  | exit id => exact ⟨.exit id, a₁, w₁, hq, fun k' hk => .head h0 s1 (harr.1 k' (by simp [exitTo, hk])),
      fun hr' hk => let ⟨k₁, h1, h2⟩ := harr.2 hr' (by simpa [exitTo] using hk); ⟨k₁, h1, .head h0 s1 h2⟩⟩
  | goto l => obtain ⟨_, _, hq, _⟩ := hq; exact hq.elim
  | ret => exact ⟨_, a₁, w₁, hq, .of_steps (.one h0 s1) harr⟩
  | panic ch => exact ⟨_, a₁, w₁, hq, .of_steps (.one h0 s1) harr⟩
  | outgrown => exact ⟨_, a₁, w₁, hq, .of_steps (.one h0 s1) harr⟩
end
end Go.Abs
