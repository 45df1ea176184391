/- An abstract walk over the model: what a function does, as a computation on described values; proved once for all functions. -/
import Derived.Test.YtjgooecohepkoaaGreatDoorEAA
set_option linter.unusedVariables false
set_option linter.unusedSimpArgs false
namespace Go.Abs
open Go

/-! ### Who must come ahead of whom -/
inductive Anc (ops : List Oper) : Nat → Nat → Prop
  | direct {i : Nat} {o : Oper} {e : Edge} (h : ops[i]? = some o) (he : e ∈ o.after.toList) (hb : Region.binds .any e = true) : Anc ops e.on i
  | step {k i : Nat} {o : Oper} {e : Edge} (h : ops[i]? = some o) (he : e ∈ o.after.toList) (hb : Region.binds .any e = true) (hk : Anc ops k e.on) : Anc ops k i

def edgeBits (acc : List Nat) (l : List Edge) : Nat := l.foldl (fun s e => if Region.binds .any e then s ||| 2 ^ e.on ||| acc.getD e.on 0 else s) 0
def bef : List Oper → List Nat → List Nat
  | [], acc => acc
  | o :: r, acc => bef r (acc ++ [edgeBits acc o.after.toList])

theorem edgeBits_spec (acc : List Nat) (l : List Edge) : ∀ (s k : Nat), (l.foldl (fun s e => if Region.binds .any e then s ||| 2 ^ e.on ||| acc.getD e.on 0 else s) s).testBit k = true →
    s.testBit k = true ∨ ∃ e ∈ l, Region.binds .any e = true ∧ (k = e.on ∨ (acc.getD e.on 0).testBit k = true) := by
  induction l with
  | nil => intro s k h; exact .inl h
  | cons e r ih =>
    intro s k h
    simp only [List.foldl_cons] at h
    rcases ih _ _ h with h1 | ⟨e', he', hb, hk⟩
    · by_cases hb : Region.binds .any e = true
      · simp only [hb, if_true, Nat.testBit_or, Bool.or_eq_true, Nat.testBit_two_pow] at h1
        rcases h1 with (h1 | h1) | h1
        · exact .inl h1
        · exact .inr ⟨e, by simp, hb, .inl (of_decide_eq_true h1).symm⟩
        · exact .inr ⟨e, by simp, hb, .inr h1⟩
      · simp only [hb] at h1
        exact .inl h1
    · exact .inr ⟨e', by simp [he'], hb, hk⟩

theorem bef_spec (all : List Oper) : ∀ (r pre : List Oper) (acc : List Nat), all = pre ++ r → acc.length = pre.length →
    (∀ i k, (acc.getD i 0).testBit k = true → Anc all k i) → ∀ i k, ((bef r acc).getD i 0).testBit k = true → Anc all k i := by
  intro r
  induction r with
  | nil => intro pre acc _ _ h; exact h
  | cons o r ih =>
    intro pre acc hall hlen h
    refine ih (pre ++ [o]) _ (by simp [hall]) (by simp [hlen]) ?_
    intro i k hk
    rw [List.getD_eq_getElem?_getD] at hk
    rcases Nat.lt_trichotomy i acc.length with hi | hi | hi
    · rw [List.getElem?_append_left hi] at hk
      exact h i k (by rw [List.getD_eq_getElem?_getD]; exact hk)
    · rw [List.getElem?_append_right (by omega), hi] at hk
      simp at hk
      have ho : all[i]? = some o := by rw [hall, List.getElem?_append_right (by omega)]; simp [hi, hlen]
      rcases edgeBits_spec acc _ 0 k hk with h1 | ⟨e, he, hb, h1 | h1⟩
      · simp at h1
      · subst h1; exact .direct ho he hb
      · exact .step ho he hb (h _ _ h1)
    · rw [List.getElem?_append_right (by omega)] at hk
      have : i - acc.length ≠ 0 := by omega
      rw [List.getElem?_eq_none (by simp; omega)] at hk
      simp at hk

theorem Anc.closed {ops : List Oper} {E : Nat → Bool} (hE : ∀ j o e, E j = true → ops[j]? = some o → e ∈ o.after.toList → Region.binds .any e = true → E e.on = true)
    {k i : Nat} (h : Anc ops k i) : (∀ o e, ops[i]? = some o → e ∈ o.after.toList → Region.binds .any e = true → E e.on = true) → E k = true := by
  induction h with
  | direct ho he hb => intro hi; exact hi _ _ ho he hb
  | step ho he hb _ ih => intro hi; exact ih fun o e ho' he' hb' => hE _ o e (hi _ _ ho he hb) ho' he' hb'

/-! ### The skeleton of a step: what it looks at and writes -/
structure Sk where
  lt : List Nat
  ls : List Nat
  wt : List Nat
  ws : List Nat

def meets (a b : List Nat) : Bool := a.any fun x => b.any fun y => Nat.beq x y
def Sk.confl (a b : Sk) : Bool := meets a.wt b.lt || meets a.wt b.wt || meets a.lt b.wt || meets a.ws b.ls || meets a.ws b.ws || meets a.ls b.ws
def ordB (bits : List Nat) (sk : List Sk) : Bool :=
  (List.range sk.length).all fun j => (List.range j).all fun i =>
    match sk[i]?, sk[j]? with
    | some a, some b => !(a.confl b) || (bits.getD j 0).testBit i
    | _, _ => true
def backB (ops : List Oper) : Bool := (List.range ops.length).all fun i => match ops[i]? with | some o => o.after.toList.all fun e => !Region.binds .any e || decide (e.on < i) | none => true

def skOf (ops : Array Oper) (o : Oper) : SD → Sk
  | .skip => ⟨gTmp ops o, [], o.dst.toList, []⟩
  | .act use pre _ post chg => ⟨gTmp ops o ++ use.map (·.1), pre.map (·.1), o.dst.toList, if chg then post.map (·.1) ++ pre.map (·.1) else []⟩

theorem meets_of {a b : List Nat} {x : Nat} (h1 : x ∈ a) (h2 : x ∈ b) : meets a b = true := by
  simp only [meets, List.any_eq_true]
  exact ⟨x, h1, x, h2, Nat.beq_refl x⟩

theorem wrT_key {dst : Option Tmp} {d : D} {l : Loc} (h : l ∈ (wrT dst d).map (·.1)) : ∃ t, l = .inl t ∧ t ∈ dst.toList := by
  unfold wrT at h
  cases dst with
  | none => simp at h
  | some t => simp at h; exact ⟨t, h, by simp⟩

theorem sk_wr {ops : Array Oper} {o : Oper} {sd : SD} {l : Loc} (h : l ∈ (acOf ops o sd).wr.map (·.1)) :
    (∃ t, l = .inl t ∧ t ∈ (skOf ops o sd).wt) ∨ (∃ t, l = .inr t ∧ t ∈ (skOf ops o sd).ws) := by
  cases sd with
  | skip => exact .inl (wrT_key h)
  | act use pre d post chg =>
    simp only [acOf, List.map_append, List.mem_append] at h
    rcases h with h | h
    · exact .inl (wrT_key h)
    · cases chg with
      | false => simp at h
      | true =>
        simp only [if_true, List.map_append, List.mem_append, List.map_map, List.mem_map, Function.comp] at h
        rcases h with ⟨x, hx, rfl⟩ | ⟨x, hx, rfl⟩
        · exact .inr ⟨x.1, rfl, by simp only [skOf, if_true, List.mem_append, List.mem_map]; exact .inl ⟨x, hx, rfl⟩⟩
        · exact .inr ⟨x.1, rfl, by simp only [skOf, if_true, List.mem_append, List.mem_map]; exact .inr ⟨x, hx, rfl⟩⟩
theorem sk_touch {ops : Array Oper} {o : Oper} {sd : SD} {l : Loc} (h : l ∈ (acOf ops o sd).touch) :
    (∃ t, l = .inl t ∧ t ∈ (skOf ops o sd).lt) ∨ (∃ t, l = .inr t ∧ t ∈ (skOf ops o sd).ls) := by
  cases sd with
  | skip =>
    simp only [acOf, List.mem_map] at h
    obtain ⟨t, ht, rfl⟩ := h
    exact .inl ⟨t, rfl, ht⟩
  | act use pre d post chg =>
    simp only [acOf, List.mem_append, List.mem_map] at h
    rcases h with ⟨t, ht, rfl⟩ | ⟨x, hx, rfl⟩ | ⟨x, hx, rfl⟩
    · exact .inl ⟨t, rfl, by simp [skOf, ht]⟩
    · exact .inl ⟨x.1, rfl, by simp only [skOf, List.mem_append, List.mem_map]; exact .inr ⟨x, hx, rfl⟩⟩
    · exact .inr ⟨x.1, rfl, by simp only [skOf, List.mem_map]; exact ⟨x, hx, rfl⟩⟩

def acs (ops : Array Oper) (sds : List SD) : List (Ac Loc Cn) := List.zipWith (acOf ops) ops.toList sds
def sks (ops : Array Oper) (sds : List SD) : List Sk := List.zipWith (skOf ops) ops.toList sds

theorem acs_get {ops : Array Oper} {sds : List SD} {i : Nat} {a : Ac Loc Cn} (h : (acs ops sds)[i]? = some a) : ∃ o sd, ops[i]? = some o ∧ sds[i]? = some sd ∧ a = acOf ops o sd := by
  unfold acs at h
  rw [List.getElem?_zipWith] at h
  cases h1 : ops.toList[i]? with
  | none => rw [h1] at h; simp at h
  | some o =>
    cases h2 : sds[i]? with
    | none => rw [h1, h2] at h; simp at h
    | some sd => rw [h1, h2] at h; simp at h; exact ⟨o, sd, by simpa using h1, rfl, h.symm⟩
theorem acs_of {ops : Array Oper} {sds : List SD} {i : Nat} {o : Oper} {sd : SD} (h1 : ops[i]? = some o) (h2 : sds[i]? = some sd) : (acs ops sds)[i]? = some (acOf ops o sd) := by
  unfold acs
  rw [List.getElem?_zipWith]
  have : ops.toList[i]? = some o := by simpa using h1
  rw [this, h2]
theorem sks_of {ops : Array Oper} {sds : List SD} {i : Nat} {o : Oper} {sd : SD} (h1 : ops[i]? = some o) (h2 : sds[i]? = some sd) : (sks ops sds)[i]? = some (skOf ops o sd) := by
  unfold sks
  rw [List.getElem?_zipWith]
  have : ops.toList[i]? = some o := by simpa using h1
  rw [this, h2]

theorem ordered_of {ops : Array Oper} {sds : List SD} (h : ordB (bef ops.toList []) (sks ops sds) = true) : Ordered (acs ops sds) (Anc ops.toList) := by
  intro i j a b l hij ha hb hc
  obtain ⟨o, sd, ho, hsd, rfl⟩ := acs_get ha
  obtain ⟨o', sd', ho', hsd', rfl⟩ := acs_get hb
  have hi := sks_of ho hsd
  have hj := sks_of ho' hsd'
  have hlt := (List.getElem?_eq_some_iff.1 hj).1
  simp only [ordB, List.all_eq_true, List.mem_range] at h
  have h1 := h j hlt i hij
  rw [hi, hj] at h1
  simp only [Bool.or_eq_true, Bool.not_eq_true'] at h1
  have hcf : (skOf ops o sd).confl (skOf ops o' sd') = true := by
    simp only [Sk.confl, Bool.or_eq_true]
    rcases hc with ⟨hw, ht | hw'⟩ | ⟨ht, hw'⟩
    · rcases sk_wr hw with ⟨t, rfl, h2⟩ | ⟨t, rfl, h2⟩ <;> rcases sk_touch ht with ⟨t', e, h3⟩ | ⟨t', e, h3⟩ <;> cases e
      · exact .inl (.inl (.inl (.inl (.inl (meets_of h2 h3)))))
      · exact .inl (.inl (.inr (meets_of h2 h3)))
    · rcases sk_wr hw with ⟨t, rfl, h2⟩ | ⟨t, rfl, h2⟩ <;> rcases sk_wr hw' with ⟨t', e, h3⟩ | ⟨t', e, h3⟩ <;> cases e
      · exact .inl (.inl (.inl (.inl (.inr (meets_of h2 h3)))))
      · exact .inl (.inr (meets_of h2 h3))
    · rcases sk_touch ht with ⟨t, rfl, h2⟩ | ⟨t, rfl, h2⟩ <;> rcases sk_wr hw' with ⟨t', e, h3⟩ | ⟨t', e, h3⟩ <;> cases e
      · exact .inl (.inl (.inl (.inr (meets_of h2 h3))))
      · exact .inr (meets_of h2 h3)
  rw [hcf] at h1
  rcases h1 with h1 | h1
  · cases h1
  · exact bef_spec ops.toList ops.toList [] [] rfl rfl (by intro i k hk; simp at hk) j i h1

/-! ### A region -/
structure Plan {Y : Sy} (E : Env Y) (ops : Array Oper) (sds : List SD) (f0 : Loc → Option Cn) (nw : Nat → Nat) : Prop where
  len : sds.length = ops.size
  fit : ∀ i o sd, ops[i]? = some o → sds[i]? = some sd → fits E ops o (run ((acs ops sds).take i) (fun _ => true) 0 f0) sd
  mono : ∀ i, nw i ≤ nw (i + 1)
  new : ∀ (i : Nat) use pre d post chg, sds[i]? = some (.act use pre d post chg) → ∀ l, look pre l = none → look post l ≠ none → nw i ≤ l ∧ l < nw (i + 1)

theorem mono_le {nw : Nat → Nat} (h : ∀ i, nw i ≤ nw (i + 1)) : ∀ {i j : Nat}, i ≤ j → nw i ≤ nw j := by
  intro i j hij
  induction hij with
  | refl => exact Nat.le_refl _
  | step _ ih => exact Nat.le_trans ih (h _)

def NameInv (nw : Nat → Nat) (E : Nat → Bool) (g : G) : Prop := ∀ l, g.φ l ≠ none → l < nw 0 ∨ ∃ k, E k = true ∧ nw k ≤ l ∧ l < nw (k + 1)

theorem plan_step {Y : Sy} {E : Env Y} {ds : List Deferred} {ops : Array Oper} {sds : List SD} {f0 : Loc → Option Cn} {nw : Nat → Nat} (hp : Plan E ops sds f0 nw)
    {i : Nat} {o : Oper} {sd : SD} (ho : ops[i]? = some o) (hsd : sds[i]? = some sd) {ex : Nat → Bool} (hex : ex i = false)
    (hread : ∀ l ∈ (acOf ops o sd).touch, run (acs ops sds) ex 0 f0 l = run ((acs ops sds).take i) (fun _ => true) 0 f0 l)
    {a : Act} {w : World} {g : G} (hr : Reach E w g) (hs : StOK E ds a w g (run (acs ops sds) ex 0 f0)) (hn : NameInv nw ex g)
    {K : Act → World → Prop} {Q : Exit → Act → World → Prop}
    (hK : ∀ a' w' g', Reach E w' g' → StOK E ds a' w' g' (app (run (acs ops sds) ex 0 f0) (acOf ops o sd).wr) → NameInv nw (fun k => if k = i then true else ex k) g' → K a' w') :
    wpOpIn E.F 0 E.P ops Q i K a w := by
  refine step_ok ho hread (hp.fit i o sd ho hsd) hr hs ?_ ?_
  · intro use pre d post chg e l h1 h2
    subst e
    obtain ⟨hlo, hhi⟩ := hp.new i use pre d post chg hsd l h1 h2
    have hphi : g.φ l = none := by
      cases hg : g.φ l with
      | none => rfl
      | some p =>
        rcases hn l (by rw [hg]; simp) with h3 | ⟨k, hk, h3, h4⟩
        · have := mono_le hp.mono (Nat.zero_le i); omega
        · rcases Nat.lt_trichotomy k i with h5 | h5 | h5
          · have := mono_le hp.mono (show k + 1 ≤ i from h5); omega
          · subst h5; rw [hex] at hk; cases hk
          · have := mono_le hp.mono (show i + 1 ≤ k from h5); omega
    refine ⟨?_, hphi⟩
    cases hf : fS (run (acs ops sds) ex 0 f0) l with
    | none => rfl
    | some o' =>
      obtain ⟨p, hp', _⟩ := hs.st.obj l o' hf
      rw [hphi] at hp'
      cases hp'
  · intro a' w' g' hr' hs' hd
    refine hK a' w' g' hr' hs' ?_
    intro l hl
    rcases hd l hl with h1 | ⟨use, pre, d, post, chg, e, h1, h2⟩
    · rcases hn l h1 with h3 | ⟨k, hk, h3, h4⟩
      · exact .inl h3
      · exact .inr ⟨k, by simp [hk], h3, h4⟩
    · subst e
      obtain ⟨hlo, hhi⟩ := hp.new i use pre d post chg hsd l h1 h2
      exact .inr ⟨i, by simp, hlo, hhi⟩

/-- In the order of the text. -/
theorem plan_lex {Y : Sy} {E : Env Y} {ds : List Deferred} {ops : Array Oper} {sds : List SD} {f0 : Loc → Option Cn} {nw : Nat → Nat} (hp : Plan E ops sds f0 nw) {Q : Exit → Act → World → Prop}
    (hQ : ∀ a w g, Reach E w g → StOK E ds a w g (run (acs ops sds) (fun _ => true) 0 f0) → (∀ l, g.φ l ≠ none → l < nw ops.size) → Q .normal a w) :
    ∀ (m i : Nat), i + m = ops.size → ∀ a w g, Reach E w g → StOK E ds a w g (run ((acs ops sds).take i) (fun _ => true) 0 f0) → NameInv nw (fun k => decide (k < i)) g →
      wpOpsIn E.F 0 E.P ops Q (List.range' i m) a w := by
  have hlen : (acs ops sds).length = ops.size := by simp [acs, hp.len]
  have hpre : ∀ i, run (acs ops sds) (fun k => decide (k < i)) 0 f0 = run ((acs ops sds).take i) (fun _ => true) 0 f0 := by
    intro i
    funext l
    conv => lhs; rw [← List.take_append_drop i (acs ops sds)]
    rw [run_append, run_not]
    · refine run_congr (fun k b hk _ => ?_) rfl
      have := (take_get hk).2
      simp [this]
    · intro k b hk _
      rw [List.getElem?_drop] at hk
      have := (List.getElem?_eq_some_iff.1 hk).1
      simp
      omega
  intro m
  induction m with
  | zero =>
    intro i hi a w g hr hs hn
    simp only [List.range'_zero, wpOpsIn]
    refine hQ a w g hr ?_ ?_
    · rw [List.take_of_length_le (by omega)] at hs; exact hs
    · intro l hl
      have hsz : i = ops.size := by omega
      subst hsz
      rcases hn l hl with h | ⟨k, hk, _, h⟩
      · exact Nat.lt_of_lt_of_le h (mono_le hp.mono (Nat.zero_le _))
      · have hk' : k < ops.size := by simpa using hk
        exact Nat.lt_of_lt_of_le h (mono_le hp.mono hk')
  | succ m ih =>
    intro i hi a w g hr hs hn
    rw [List.range'_succ, wpOpsIn_cons]
    have hlt : i < ops.size := by omega
    obtain ⟨o, ho⟩ : ∃ o, ops[i]? = some o := ⟨ops[i], by simp [hlt]⟩
    obtain ⟨sd, hsd⟩ : ∃ sd, sds[i]? = some sd := ⟨sds[i]'(by rw [hp.len]; exact hlt), by simp⟩
    refine plan_step hp ho hsd (ex := fun k => decide (k < i)) (by simp) (fun l _ => by rw [hpre i]) hr (by rw [hpre i]; exact hs) hn ?_
    intro a' w' g' hr' hs' hn'
    refine ih (i + 1) (by omega) a' w' g' hr' ?_ ?_
    · rw [run_take_succ (acs_of ho hsd), ← hpre i]; exact hs'
    · intro l hl
      rcases hn' l hl with h | ⟨k, hk, h⟩
      · exact .inl h
      · refine .inr ⟨k, ?_, h⟩
        by_cases hki : k = i
        · simp [hki]
        · simp only [hki, if_false, decide_eq_true_eq] at hk
          simp; omega

/-- In whatever order. -/
theorem plan_any {Y : Sy} {E : Env Y} {ds : List Deferred} {ops : Array Oper} {sds : List SD} {f0 : Loc → Option Cn} {nw : Nat → Nat} (hp : Plan E ops sds f0 nw)
    (hord : Ordered (acs ops sds) (Anc ops.toList)) (hback : backB ops.toList = true) {Q : Exit → Act → World → Prop}
    (hQ : ∀ a w g, Reach E w g → StOK E ds a w g (run (acs ops sds) (fun _ => true) 0 f0) → (∀ l, g.φ l ≠ none → l < nw ops.size) → Q .normal a w) :
    ∀ (fuel : Nat) (listed : Array Bool) (L : List Nat), listed.size = ops.size → L.length ≤ fuel → (∀ k, k < ops.size → listed.getD k true = false → k ∈ L) →
      (∀ j o e, listed.getD j false = true → ops.toList[j]? = some o → e ∈ o.after.toList → Region.binds .any e = true → listed.getD e.on false = true) →
      ∀ a w g, Reach E w g → StOK E ds a w g (run (acs ops sds) (fun k => listed.getD k false) 0 f0) → NameInv nw (fun k => listed.getD k false) g →
        wpAnyIn E.F 0 E.P .any ops Q fuel listed a w := by
  have hlen : (acs ops sds).length = ops.size := by simp [acs, hp.len]
  have hget : ∀ (listed : Array Bool) k, listed.size = ops.size → k < ops.size → listed.getD k true = listed.getD k false := by
    intro listed k h1 h2
    simp [Array.getD, h1, h2]
  -- all done
  have fin : ∀ (listed : Array Bool), listed.size = ops.size → (∀ k, k < ops.size → listed.getD k true = true) → ∀ a w g, Reach E w g →
      StOK E ds a w g (run (acs ops sds) (fun k => listed.getD k false) 0 f0) → NameInv nw (fun k => listed.getD k false) g → Q .normal a w := by
    intro listed hsz hall a w g hr hs hn
    refine hQ a w g hr ?_ ?_
    · have : run (acs ops sds) (fun k => listed.getD k false) 0 f0 = run (acs ops sds) (fun _ => true) 0 f0 := by
        funext l
        refine run_congr (fun k b hk _ => ?_) rfl
        have hlt : k < ops.size := by have := (List.getElem?_eq_some_iff.1 hk).1; omega
        rw [Nat.zero_add, ← hget listed k hsz hlt, hall k hlt]
      rw [← this]; exact hs
    · intro l hl
      rcases hn l hl with h | ⟨k, hk, _, h⟩
      · exact Nat.lt_of_lt_of_le h (mono_le hp.mono (Nat.zero_le _))
      · have hk' : k < ops.size := by
          rcases Nat.lt_or_ge k ops.size with h1 | h1
          · exact h1
          · simp [Array.getD, hsz, Nat.not_lt.2 h1] at hk
        exact Nat.lt_of_lt_of_le h (mono_le hp.mono hk')
  -- nothing ready: all done
  have rdy : ∀ (listed : Array Bool), listed.size = ops.size → Region.ready .any ops listed = [] → ∀ k, k < ops.size → listed.getD k true = true := by
    intro listed hsz hr k
    induction k using Nat.strongRecOn with
    | _ k ih =>
      intro hk
      cases hl : listed.getD k true with
      | true => rfl
      | false =>
        exfalso
        have hmem : k ∈ Region.ready .any ops listed := by
          simp only [Region.ready, List.mem_filter, List.mem_range]
          refine ⟨hk, ?_⟩
          obtain ⟨o, ho⟩ : ∃ o, ops[k]? = some o := ⟨ops[k], by simp [hk]⟩
          simp only [hl, Bool.not_false, Bool.true_and, ho, Option.map_some, Option.getD_some]
          rw [Array.all_eq_true_iff_forall_mem]
          intro e he
          cases hb : Region.binds .any e with
          | false => simp
          | true =>
            simp only [Bool.not_true, Bool.false_or]
            simp only [backB, List.all_eq_true, List.mem_range] at hback
            have h1 := hback k (by simpa using hk)
            have ho' : ops.toList[k]? = some o := by simpa using ho
            rw [ho'] at h1
            simp only [List.all_eq_true] at h1
            have h2 := h1 e (by simpa using he)
            rw [hb] at h2
            simp at h2
            rw [← hget listed e.on hsz (by omega)]
            exact ih e.on h2 (by omega)
        rw [hr] at hmem
        cases hmem
  intro fuel
  induction fuel with
  | zero =>
    intro listed L hsz hL hin hcl a w g hr hs hn
    have hLn : L = [] := List.eq_nil_of_length_eq_zero (by omega)
    have hall : ∀ k, k < ops.size → listed.getD k true = true := by
      intro k hk
      cases h : listed.getD k true with
      | true => rfl
      | false => have := hin k hk h; rw [hLn] at this; cases this
    refine ⟨?_, fin listed hsz hall a w g hr hs hn⟩
    rw [List.eq_nil_iff_forall_not_mem]
    intro k hk
    simp only [Region.ready, List.mem_filter, List.mem_range] at hk
    rw [hall k hk.1] at hk
    simp at hk
  | succ fuel ih =>
    intro listed L hsz hL hin hcl a w g hr hs hn
    refine ⟨fun h0 => fin listed hsz (rdy listed hsz h0) a w g hr hs hn, ?_⟩
    intro i hi
    simp only [Region.ready, List.mem_filter, List.mem_range, Bool.and_eq_true, Bool.not_eq_true'] at hi
    obtain ⟨hlt, hun, hpred⟩ := hi
    obtain ⟨o, ho⟩ : ∃ o, ops[i]? = some o := ⟨ops[i], by simp [hlt]⟩
    obtain ⟨sd, hsd⟩ : ∃ sd, sds[i]? = some sd := ⟨sds[i]'(by rw [hp.len]; exact hlt), by simp⟩
    have hun' : listed.getD i false = false := by rw [← hget listed i hsz hlt]; exact hun
    have hac := acs_of (sds := sds) ho hsd
    have hdir : ∀ o' e, ops.toList[i]? = some o' → e ∈ o'.after.toList → Region.binds .any e = true → listed.getD e.on false = true := by
      intro o' e h1 h2 h3
      have : o' = o := by
        have : ops.toList[i]? = some o := by simpa using ho
        rw [this] at h1; cases h1; rfl
      subst this
      simp only [ho, Option.map_some, Option.getD_some] at hpred
      rw [Array.all_eq_true_iff_forall_mem] at hpred
      have := hpred e (by simpa using h2)
      rw [h3] at this
      simpa using this
    have hclosed : ∀ j k, listed.getD j false = true → Anc ops.toList k j → listed.getD k false = true := fun j k hj hk =>
      hk.closed (E := fun k => listed.getD k false) (fun j o e h1 h2 h3 h4 => hcl j o e h1 h2 h3 h4) (fun o e h2 h3 h4 => hcl j o e hj h2 h3 h4)
    have hex : (fun k => (listed.setIfInBounds i true).getD k false) = fun k => if k = i then true else listed.getD k false := by
      funext k
      by_cases hk : k = i
      · subst hk; simp [Array.getD_eq_getD_getElem?, hsz, hlt]
      · simp [Array.getD_eq_getD_getElem?, Array.getElem?_setIfInBounds_ne (Ne.symm hk), hk]
    refine plan_step hp ho hsd (ex := fun k => listed.getD k false) hun' (fun l hl => ?_) hr hs hn ?_
    · exact run_read hord hac (fun k hk => hk.closed (E := fun k => listed.getD k false) (fun j o e h1 h2 h3 h4 => hcl j o e h1 h2 h3 h4) hdir) hclosed hun' hl
    · intro a' w' g' hr' hs' hn'
      refine ih _ (L.erase i) (by simpa using hsz) ?_ ?_ ?_ a' w' g' hr' ?_ ?_
      · have := List.length_erase_of_mem (hin i hlt hun)
        omega
      · intro k hk hkl
        by_cases hki : k = i
        · subst hki; simp [Array.getD, hsz, hk] at hkl
        · have : listed.getD k true = false := by
            rw [← hkl]
            simp [Array.getD_eq_getD_getElem?, Array.getElem?_setIfInBounds_ne (Ne.symm hki)]
          exact (List.mem_erase_of_ne hki).2 (hin k hk this)
      · intro j o' e h1 h2 h3 h4
        have e1 : (listed.setIfInBounds i true).getD j false = if j = i then true else listed.getD j false := congrFun hex j
        have e2 : (listed.setIfInBounds i true).getD e.on false = if e.on = i then true else listed.getD e.on false := congrFun hex e.on
        rw [e1] at h1
        rw [e2]
        split
        · rfl
        · split at h1
          · rename_i hji; subst hji; exact hdir o' e h2 h3 h4
          · exact hcl j o' e h1 h2 h3 h4
      · have := run_write (E := fun k => listed.getD k false) (f := f0) hord hac hclosed hun'
        rw [hex, this]
        exact hs'
      · rw [hex]; exact hn'
end Go.Abs
namespace Go.Abs
open Go

def setT (σ : List (Nat × D)) (t : Nat) (d : D) : List (Nat × D) := (t, d) :: σ
def setO (σ : List (Nat × D)) (dst : Option Nat) (d : D) : List (Nat × D) := match dst with | some t => setT σ t d | none => σ
def putS : Store → Nat → AO → Store
  | [], l, o => [(l, o)]
  | (k, e) :: r, l, o => if k = l then (l, o) :: r else (k, e) :: putS r l o
def delS : Store → Nat → Store
  | [], _ => []
  | (k, e) :: r, l => if k = l then delS r l else (k, e) :: delS r l

theorem getT_setT (σ : List (Nat × D)) (t : Nat) (d : D) (u : Nat) : getT (setT σ t d) u = if t = u then d else getT σ u := rfl
theorem look_putS (S : Store) (l : Nat) (o : AO) (u : Nat) : look (putS S l o) u = if l = u then some o else look S u := by
  induction S with
  | nil => simp [putS, look]
  | cons x r ih =>
    obtain ⟨k, e⟩ := x
    simp only [putS]
    by_cases hk : k = l
    · subst hk
      simp only [if_true, look]
      split <;> rfl
    · simp only [hk, if_false, look, ih]
      by_cases hu : k = u
      · subst hu; simp [Ne.symm hk]
      · simp [hu]
theorem look_delS (S : Store) (l : Nat) (u : Nat) : look (delS S l) u = if l = u then none else look S u := by
  induction S with
  | nil => simp [delS, look]
  | cons x r ih =>
    obtain ⟨k, e⟩ := x
    simp only [delS]
    by_cases hk : k = l
    · subst hk
      simp only [if_true, ih, look]
      split <;> rfl
    · simp only [hk, if_false, look, ih]
      by_cases hu : k = u
      · subst hu; simp [Ne.symm hk]
      · simp [hu]

/-- One cell, and not an aggregate. -/
def oneD : D → Bool
  | .any | .agg _ | .tup _ => false
  | .v x => x.oneCell'
  | _ => true
/-- The cells of a value. -/
def cellsD : D → Option (List D)
  | .agg cs => some cs
  | d => if oneD d then some [d] else none

def onSome {α : Type} (o : Option α) (K : α → Prop) : Prop := ∃ x, o = some x ∧ K x
theorem onSome_some {α : Type} (x : α) (K : α → Prop) : onSome (some x) K = K x := by simp [onSome]

def evD (gl : Nat → D) (σ : List (Nat × D)) : Operand → D
  | .tmp t => getT σ t
  | .const v => constD v
  | .global g => gl g
  | .func f => .v (.func (.func f) #[] #[])

def opTmps (o : Oper) : List Nat := o.op.operands.toList.filterMap fun | .tmp t => some t | _ => none

abbrev KT := D → Store → Nat → List Nat → List Nat → Prop

/-- A load from cells. -/
def loadD (ti : TI) (cs : List D) (K : D → Prop) : Prop :=
  bif ti.agg then ti.size ≤ cs.length ∧ K (.agg (cs.take ti.size)) else onSome cs.head? K

/-- Cells laid over others. -/
def overD (cs : List D) (off : Nat) (new : List D) : List D := cs.take off ++ new ++ cs.drop (off + new.length)

/-- Integer operations. -/
def intBin (op : BinOp) (k : IntKind) (a b : Int) (K : D → Prop) : Prop :=
  match op with
  | .add => K (.v (.int k (k.wrap (a + b))))
  | .sub => K (.v (.int k (k.wrap (a - b))))
  | .mul => K (.v (.int k (k.wrap (a * b))))
  | .quo => b ≠ 0 ∧ K (.v (.int k (k.wrap (a.tdiv b))))
  | .rem => b ≠ 0 ∧ K (.v (.int k (a.tmod b)))
  | .and | .or | .xor | .andNot => K (.v (.int k (bits op k a b)))
  | .eql => K (.v (.bool (a == b)))
  | .neq => K (.v (.bool (a != b)))
  | .lss => K (.v (.bool (decide (a < b))))
  | .leq => K (.v (.bool (decide (a ≤ b))))
  | .gtr => K (.v (.bool (decide (b < a))))
  | .geq => K (.v (.bool (decide (b ≤ a))))
  | _ => False
end Go.Abs
namespace Go.Abs
open Go

theorem rep_constD (w : World) (g : G) (v : Value) : Rep w g v (constD v) := by
  unfold constD
  split
  · simp only [Rep]
  · simp only [Rep]

def useOf (o : Oper) (σ : List (Nat × D)) : List (Nat × D) := (opTmps o).map fun t => (t, getT σ t)

theorem rep_eval {Y : Sy} {E : Env Y} {o : Oper} {σ : List (Nat × D)} {a : Act} {w : World} {g : G} (hr : Reach E w g) (hu : ∀ x ∈ useOf o σ, Rep w g (a.tmps.getD x.1 undef) x.2)
    {x : Operand} (hx : x ∈ o.op.operands) : Rep w g (a.eval x) (evD E.gl σ x) := by
  cases x with
  | tmp t =>
    refine hu (t, getT σ t) ?_
    simp only [useOf, List.mem_map]
    refine ⟨t, ?_, rfl⟩
    simp only [opTmps, List.mem_filterMap]
    exact ⟨.tmp t, by simpa using hx, rfl⟩
  | const v => exact rep_constD w g v
  | global i => exact ((E.hgl i).tr hr.tr.cl E.wf0.cl E.hz0).ofCl
  | func f => simp [evD, Rep, Act.eval]

theorem simS_nil {Y : Sy} {E : Env Y} {w : World} {g : G} : SimS E w g (look []) := ⟨fun l o h => by simp [look] at h, fun l l' b x x' h => by simp [look] at h⟩
theorem move_refl {Y : Sy} {E : Env Y} {w : World} {g : G} {S : Store} (hr : Reach E w g) (hs : SimS E w g (look S)) : Move E (look S) (look S) w g w g :=
  ⟨Tr.refl _ _ _, hr.wf, hs, fun _ h => .inl h⟩

/-- From a run to what is asked of an operation. -/
theorem acts_of {Y : Sy} {E : Env Y} {o : Oper} {use : List (Nat × D)} {pre post : Store} {d : D} (hdef : ∀ c, o.op ≠ .defer c)
    (h : ∀ (a : Act) w g, Reach E w g → (∀ x ∈ use, Rep w g (a.tmps.getD x.1 undef) x.2) → SimS E w g (look pre) → (∀ l, look pre l = none → look post l ≠ none → g.φ l = none) →
      ∃ v w' g', ((execOp a.eval o).run E.P w = .ok (.value v) w' ∨ (execOp a.eval o).run E.P w = .ok .skip w' ∧ v = undef) ∧ Move E (look pre) (look post) w g w' g' ∧ Rep w' g' v d) :
    Acts E o use pre d post := by
  intro a w g hr hu hs hf next Q hK
  obtain ⟨v, w', g', hrun, hm, hv⟩ := h a w g hr hu hs hf
  refine ⟨fun f _ => E.hF f, ?_⟩
  rw [Oper.semAt_eq _ _ _ hdef]
  rcases hrun with hrun | ⟨hrun, rfl⟩
  · rw [hrun]; exact hK v w' g' hm hv
  · rw [hrun]; exact hK undef w' g' hm hv

theorem acts_read {Y : Sy} {E : Env Y} {o : Oper} {use : List (Nat × D)} {pre : Store} {d : D} (hdef : ∀ c, o.op ≠ .defer c)
    (h : ∀ (a : Act) w g, Reach E w g → (∀ x ∈ use, Rep w g (a.tmps.getD x.1 undef) x.2) → SimS E w g (look pre) → ∃ v, (execOp a.eval o).run E.P w = .ok (.value v) w ∧ Rep w g v d) :
    Acts E o use pre d pre :=
  acts_of hdef fun a w g hr hu hs _ => let ⟨v, hrun, hv⟩ := h a w g hr hu hs; ⟨v, w, g, .inl hrun, move_refl hr hs, hv⟩

structure VopOK {Y : Sy} (E : Env Y) (o : Oper) (σ : List (Nat × D)) (S : Store) (nx : Nat) (d : D) (S' : Store) (nx' : Nat) (ls ws : List Nat) (pre post : Store) (chg : Bool) : Prop where
  hact : Acts E o (useOf o σ) pre d post
  hpre : ∀ x ∈ pre, look S x.1 = some x.2
  hchg : chg = false → post = pre
  hupd : ∀ l, look S' l = if look pre l = none ∧ look post l = none then look S l else look post l
  hnx : nx ≤ nx'
  hnew : ∀ l, look pre l = none → look post l ≠ none → nx ≤ l ∧ l < nx'
  hls : ∀ x ∈ pre, x.1 ∈ ls
  hws : chg = true → (∀ x ∈ post, x.1 ∈ ws) ∧ (∀ x ∈ pre, x.1 ∈ ws)

def VopRes {Y : Sy} (E : Env Y) (o : Oper) (σ : List (Nat × D)) (S : Store) (nx : Nat) (K : KT) : Prop :=
  ∃ d S' nx' ls ws pre post chg, VopOK E o σ S nx d S' nx' ls ws pre post chg ∧ K d S' nx' ls ws

section
variable {Y : Sy} {E : Env Y} {o : Oper} {σ : List (Nat × D)} {S : Store} {nx : Nat} {d : D} {K : KT}
theorem VopRes.pure (ha : Acts E o (useOf o σ) [] d []) (hK : K d S nx [] []) : VopRes E o σ S nx K :=
  ⟨d, S, nx, [], [], [], [], false, ⟨ha, by simp, fun _ => rfl, fun l => by simp [look], Nat.le_refl _, fun l _ h => by simp [look] at h, by simp, by simp⟩, hK⟩
theorem VopRes.read {l : Nat} {ob : AO} (hl : look S l = some ob) (ha : Acts E o (useOf o σ) [(l, ob)] d [(l, ob)]) (hK : K d S nx [l] []) : VopRes E o σ S nx K :=
  ⟨d, S, nx, [l], [], [(l, ob)], [(l, ob)], false, ⟨ha, by simpa using hl, fun _ => rfl, fun k => by
    simp only [look]; split <;> simp_all, Nat.le_refl _, fun k h1 h2 => absurd h1 h2, by simp, by simp⟩, hK⟩
theorem VopRes.write {l : Nat} {ob ob' : AO} (hl : look S l = some ob) (ha : Acts E o (useOf o σ) [(l, ob)] d [(l, ob')]) (hK : K d (putS S l ob') nx [l] [l]) : VopRes E o σ S nx K :=
  ⟨d, _, nx, [l], [l], [(l, ob)], [(l, ob')], true, ⟨ha, by simpa using hl, by simp, fun k => by
    rw [look_putS]; simp only [look]; split <;> simp_all, Nat.le_refl _, fun k h1 h2 => by
      simp only [look] at h1 h2; split at h1 <;> simp_all, by simp, by simp⟩, hK⟩
theorem VopRes.new {ob : AO} (ha : Acts E o (useOf o σ) [] d [(nx, ob)]) (hK : K d (putS S nx ob) (nx + 1) [] [nx]) : VopRes E o σ S nx K :=
  ⟨d, _, nx + 1, [], [nx], [], [(nx, ob)], true, ⟨ha, by simp, by simp, fun k => by
    rw [look_putS]; simp only [look]; split <;> simp_all, by omega, fun k _ h2 => by
      simp only [look] at h2; split at h2
      · omega
      · simp at h2, by simp, by simp⟩, hK⟩
theorem VopRes.repl {l : Nat} {ob ob' : AO} (hl : look S l = some ob) (ha : Acts E o (useOf o σ) [(l, ob)] d [(nx, ob')]) (hK : K d (putS (delS S l) nx ob') (nx + 1) [l] [nx, l]) : VopRes E o σ S nx K :=
  ⟨d, _, nx + 1, [l], [nx, l], [(l, ob)], [(nx, ob')], true, ⟨ha, by simpa using hl, by simp, fun k => by
    rw [look_putS, look_delS]; simp only [look]
    by_cases h1 : nx = k <;> by_cases h2 : l = k <;> simp [h1, h2], by omega, fun k _ h2 => by
      simp only [look] at h2; split at h2
      · omega
      · simp at h2, by simp, by simp⟩, hK⟩
end

/-! ### Types -/
theorem ti_spec {Y : Sy} {E : Env Y} {t : Nat} {ti : TI} (h : E.T t = some ti) : ∃ i d z, E.P.info? t = some i ∧ E.P.underlying t = some d ∧ i.zero = some z ∧ ti.agg = descAgg d ∧ ti.size = i.size ∧ ti.bytes = i.bytes ∧
    ti.zero = z.cells.toList.map constD ∧ ti.k = toTK d ∧ ti.eqok = ((match d with | .struct fs => fs.toList.all (fun f => f.name != "_") | _ => true) && !E.P.stoodInHeld t && !E.P.eqGuardType E.P.depth t) := by
  have := E.hT t ti h
  unfold tiOf at this
  split at this
  · rename_i i d h1 h2
    split at this
    · rename_i z hz
      cases this
      exact ⟨i, d, z, h1, h2, hz, rfl, rfl, rfl, rfl, rfl, rfl⟩
    · cases this
  · cases this

theorem run_isAgg' {Y : Sy} {E : Env Y} {t : Nat} {ti : TI} (h : E.T t = some ti) (w : World) : (isAgg t).run E.P w = .ok ti.agg w := by
  obtain ⟨i, d, z, h1, h2, h3, h4, _⟩ := ti_spec h
  rw [h4]
  cases d <;> simp [isAgg, run_underlying h2, descAgg]
theorem run_sizeOf' {Y : Sy} {E : Env Y} {t : Nat} {ti : TI} (h : E.T t = some ti) (w : World) : (sizeOf t).run E.P w = .ok ti.size w := by
  obtain ⟨i, d, z, h1, h2, h3, h4, h5, _⟩ := ti_spec h
  simp [sizeOf, typeInfo, h1, h5]

theorem repL_constD (w : World) (g : G) (vs : List Value) : RepL w g vs (vs.map constD) := by
  induction vs with
  | nil => simp [RepL]
  | cons x r ih => simp only [List.map_cons, RepL]; exact ⟨rep_constD w g x, ih⟩

theorem run_zeroValue' {Y : Sy} {E : Env Y} {t : Nat} {ti : TI} (h : E.T t = some ti) (w : World) (g : G) : ∃ z, (zeroValue t).run E.P w = .ok z w ∧ RepL w g z.cells.toList ti.zero := by
  obtain ⟨i, d, z, h1, h2, h3, h4, h5, h6, h7, _⟩ := ti_spec h
  refine ⟨z, by simp [zeroValue, typeInfo, h1, h3], ?_⟩
  rw [h7]
  exact repL_constD w g _

theorem run_zeroValueD {Y : Sy} {E : Env Y} {t : Nat} {ti : TI} (h : E.T t = some ti) (w : World) (g : G) : ∃ z, (zeroValue t).run E.P w = .ok z w ∧ Rep w g z ti.zd := by
  have := E.hT t ti h
  unfold tiOf at this
  split at this
  · rename_i i d h1 h2
    split at this
    · rename_i z hz
      cases this
      refine ⟨z, by simp [zeroValue, typeInfo, h1, hz], ?_⟩
      show Rep w g z (zdOf z)
      cases z with
      | agg vs =>
        simp only [zdOf, Rep]
        exact ⟨vs.toList, by simp, repL_constD w g _⟩
      | _ => exact rep_constD w g _
    · cases this
  · cases this

/-! ### Loads -/
theorem run_load {Y : Sy} {E : Env Y} {t : Nat} {ti : TI} (hti : E.T t = some ti) {w : World} {g : G} {ad : Addr} {vs : List Value} {cs : List D} (hc : cellsAt w ad vs) (hl : RepL w g vs cs)
    {K : D → Prop} (hK : loadD ti cs K) : ∃ v d, (loadVar t ad).run E.P w = .ok v w ∧ Rep w g v d ∧ K d := by
  unfold loadD at hK
  unfold loadVar
  rw [Sem.run_bind, run_isAgg' hti]
  simp only [Result.andThen_ok]
  cases hagg : ti.agg with
  | true =>
    rw [hagg] at hK
    obtain ⟨hlen, hK⟩ := hK
    refine ⟨.agg (vs.take ti.size).toArray, _, ?_, ?_, hK⟩
    · have h1 := run_loadCells_list (P := E.P) w ad (vs.take ti.size) (fun j v hv => hc.take ti.size j v hv)
      rw [List.length_take, Nat.min_eq_left (by rw [hl.length]; exact hlen)] at h1
      simp [run_sizeOf' hti, h1]
    · simp only [Rep]
      exact ⟨_, rfl, hl.take _⟩
  | false =>
    rw [hagg] at hK
    obtain ⟨d, hd, hK⟩ := hK
    cases cs with
    | nil => simp at hd
    | cons c r =>
      simp only [List.head?_cons, Option.some.injEq] at hd
      subst hd
      obtain ⟨x, xs, rfl, hx, _⟩ := RepL.cons_iff.1 hl
      refine ⟨x, c, ?_, hx, hK⟩
      have := hc 0 x rfl
      rw [add_zero] at this
      simp [load, Sem.run, this]

end Go.Abs
namespace Go.Abs
open Go

/-! ### Moves -/
section moves
variable {Y : Sy} {E : Env Y} {w : World} {g : G}
def frz (g : G) (b : Nat) : G := ⟨fun k => g.Z k ∨ k = b, g.φ⟩
def named (g : G) (l : Nat) (p : Option Nat × Nat) : G := ⟨g.Z, fun k => if k = l then some p else g.φ k⟩

theorem alloc_size (w : World) (o : Obj) : (w.alloc o).heap.size = w.heap.size + 1 := by simp

theorem move_alloc_frozen (hr : Reach E w g) (o : Obj) : Move E (look []) (look []) w g (w.alloc o) (frz g w.heap.size) := by
  refine ⟨⟨rfl, rfl, rfl, by simp, fun b hb _ => heap_alloc_old w o hb, fun b h => .inl h, fun b h hb _ => ?_, fun _ _ h => h, fun l b c h1 h2 => ?_⟩, ⟨fun b h => ?_, fun l b c h => ?_⟩, simS_nil, fun l h => .inl h⟩
  · rcases h with h | h
    · exact h
    · omega
  · simp only [frz] at h1; rw [h1] at h2; cases h2
  · rw [alloc_size]
    rcases h with h | h
    · have := hr.wf.zlt b h; omega
    · omega
  · rw [alloc_size]; have := hr.wf.flt l b c h; omega

theorem move_alloc_named (hr : Reach E w g) {nx : Nat} (hφ : g.φ nx = none) (o : Obj) (cap : Nat) {ob : AO} (hob : ObjRep (w.alloc o) (named g nx (some w.heap.size, cap)) (some w.heap.size, cap) ob) :
    Move E (look []) (look [(nx, ob)]) w g (w.alloc o) (named g nx (some w.heap.size, cap)) := by
  refine ⟨⟨rfl, rfl, rfl, by simp, fun b hb _ => heap_alloc_old w o hb, fun b h => h, fun b h hb _ => h, fun l p h => ?_, fun l b c h1 h2 => ?_⟩, ⟨fun b h => ?_, fun l b c h => ?_⟩, ⟨fun l o' h => ?_, fun l l' b x x' h1 h2 hne => ?_⟩, fun l h => ?_⟩
  · simp only [named]
    split
    · rename_i e; subst e; rw [hφ] at h; cases h
    · exact h
  · simp only [named] at h1
    split at h1
    · cases h1; exact .inl (Nat.le_refl _)
    · rw [h1] at h2; cases h2
  · rw [alloc_size]; have := hr.wf.zlt b h; omega
  · rw [alloc_size]
    simp only [named] at h
    split at h
    · cases h; omega
    · have := hr.wf.flt l b c h; omega
  · simp only [look] at h
    split at h
    · rename_i e; subst e; cases h
      refine ⟨(some w.heap.size, cap), by simp [named], hob, fun b hb => ?_⟩
      simp only [Option.some.injEq] at hb
      subst hb
      refine ⟨fun hz => ?_, fun hlt => ?_⟩
      · have := hr.wf.zlt _ hz; omega
      · have := hr.tr.size; omega
    · cases h
  · simp only [look] at h1 h2
    split at h1
    · split at h2
      · omega
      · simp at h2
    · simp at h1
  · simp only [named] at h
    split at h
    · rename_i e; subst e; exact .inr (by simp [look])
    · exact .inl h

/-- A write to the one block of a name. -/
theorem move_write {l : Nat} {ob ob' : AO} {b c : Nat} {w' : World} (hr : Reach E w g) (hs : SimS E w g (look [(l, ob)])) (hφ : g.φ l = some (some b, c))
    (h1 : w'.os = w.os) (h2 : w'.tape = w.tape) (h3 : w'.output = w.output) (h4 : w'.heap.size = w.heap.size) (h5 : ∀ k, k ≠ b → w'.heap[k]? = w.heap[k]?)
    (hob : ObjRep w' g (some b, c) ob') : Move E (look [(l, ob)]) (look [(l, ob')]) w g w' g := by
  have hown : ∀ k, ownC g (look [(l, ob)]) k ↔ k = b := by
    intro k
    constructor
    · rintro ⟨l', x, hl', hp⟩
      simp only [look] at hl'
      split at hl'
      · rename_i e; subst e; rw [hφ] at hp; cases hp; rfl
      · simp at hl'
    · rintro rfl
      exact ⟨l, c, by simp [look], hφ⟩
  obtain ⟨p, hp, _, hn⟩ := hs.obj l ob (by simp [look])
  rw [hφ] at hp
  cases hp
  refine ⟨⟨h1, h2, h3, by omega, fun k _ hk => h5 k (fun e => hk ((hown k).2 e)), fun _ h => h, fun _ h _ _ => h, fun _ _ h => h, fun l b c h1 h2 => by rw [h1] at h2; cases h2⟩,
    ⟨fun k h => by rw [h4]; exact hr.wf.zlt k h, fun l b c h => by rw [h4]; exact hr.wf.flt l b c h⟩, ⟨fun l' o' h => ?_, fun l1 l2 b x x' g1 g2 hne => ?_⟩, fun l h => .inl h⟩
  · simp only [look] at h
    split at h
    · rename_i e; subst e; cases h
      exact ⟨_, hφ, hob, hn⟩
    · cases h
  · simp only [look] at g1 g2
    split at g1
    · split at g2
      · omega
      · simp at g2
    · simp at g1

theorem obj_of {l : Nat} {ob : AO} (hs : SimS E w g (look [(l, ob)])) : ∃ p, g.φ l = some p ∧ ObjRep w g p ob := by
  obtain ⟨p, h1, h2, _⟩ := hs.obj l ob (by simp [look])
  exact ⟨p, h1, h2⟩
theorem box_of {l : Nat} {cs : List D} (hs : SimS E w g (look [(l, .box cs)])) : ∃ b c arr t, g.φ l = some (some b, c) ∧ w.heap[b]? = some (.cells arr t (0, 0)) ∧ RepL w g arr.toList cs := by
  obtain ⟨⟨p, c⟩, h1, b, arr, t, h2, h3, h4⟩ := obj_of hs
  simp only at h2
  subst h2
  exact ⟨b, c, arr, t, h1, h3, h4⟩
end moves

theorem rep_one {w : World} {g : G} {v : Value} {d : D} (h : Rep w g v d) (h1 : oneD d = true) : v.oneCell' = true := by
  cases d <;> simp only [oneD, Bool.false_eq_true] at h1 <;> simp only [Rep] at h
  case v => rw [h]; exact h1
  case s => rw [h]; rfl
  case sl => obtain ⟨_, _, rfl, _⟩ := h; rfl
  case ep => obtain ⟨_, _, rfl, _⟩ := h; rfl
  case ref => obtain ⟨_, _, _, rfl⟩ := h; rfl
  case oel => obtain ⟨_, _, _, rfl⟩ := h; rfl
  case own => rcases h with ⟨_, _, _, _, rfl⟩ | ⟨_, _, rfl⟩ <;> rfl
  case mp => obtain ⟨_, _, _, rfl⟩ := h; rfl
  case it => obtain ⟨_, _, _, rfl⟩ := h; rfl
  case yl => obtain ⟨_, _, _, rfl⟩ := h; rfl
  case fmp => obtain ⟨_, _, _, rfl, _⟩ := h; rfl
  case fn => obtain ⟨_, _, rfl, _⟩ := h; rfl
theorem cells_one {v : Value} (h : v.oneCell' = true) : v.cells.toList = [v] := by
  cases v <;> simp [Value.oneCell'] at h <;> rfl
theorem rep_cells {w : World} {g : G} {v : Value} {d : D} {cs : List D} (h : Rep w g v d) (hc : cellsD d = some cs) : RepL w g v.cells.toList cs := by
  unfold cellsD at hc
  split at hc
  · cases hc
    simp only [Rep] at h
    obtain ⟨vs, rfl, h⟩ := h
    simpa [Value.cells] using h
  · split at hc
    · rename_i h1
      cases hc
      rw [cells_one (rep_one h h1)]
      simp only [RepL]
      exact ⟨h, trivial⟩
    · cases hc
theorem repL_one {w : World} {g : G} : ∀ {vs : List Value} {ds : List D}, RepL w g vs ds → ds.all oneD = true → ∀ v ∈ vs, v.oneCell' = true
  | [], _, _, _ => by simp
  | x :: xs, [], h, _ => by simp [RepL] at h
  | x :: xs, d :: ds, h, h1 => by
    simp only [RepL] at h
    simp only [List.all_cons, Bool.and_eq_true] at h1
    intro v hv
    rcases List.mem_cons.1 hv with rfl | hv
    · exact rep_one h.1 h1.1
    · exact repL_one h.2 h1.2 v hv

theorem cellsAt_block {w : World} {b : Nat} {arr : Array Value} {t : TypeId} {f : Nat × Nat} (h : w.heap[b]? = some (.cells arr t f)) (off : Nat) : cellsAt w ⟨b, off, none⟩ (arr.toList.drop off) := by
  intro j u hu
  have hadd : (⟨b, off, none⟩ : Addr).add j = ⟨b, off + j, none⟩ := by unfold Addr.add; split <;> simp_all
  rw [hadd, cell_of_row w b (off + j) arr t f h]
  rw [List.getElem?_drop] at hu
  simpa using hu

/-! ### Loads -/
def vLoad {Y : Sy} (E : Env Y) (t : Nat) (x : D) (S : Store) (nx : Nat) (K : KT) : Prop :=
  onSome (E.T t) fun ti => match x with
  | .ep cs => loadD ti cs fun d => K d S nx [] []
  | .ref l off => onSome (look S l) fun ob => match ob with
    | .box cs => loadD ti (cs.drop off) fun d => K d S nx [l] []
    | _ => False
  | .oel l size i j => onSome (look S l) fun ob => match ob with
    | .row _ sz es => size = sz ∧ onSome es[i]? fun e => loadD ti (e.drop j) fun d => K d S nx [l] []
    | _ => False
  | _ => False

theorem loadD_det {ti : TI} {cs : List D} {K : D → Prop} (h : loadD ti cs K) : ∃ d, K d ∧ loadD ti cs (· = d) := by
  unfold loadD at *
  cases hagg : ti.agg with
  | true => rw [hagg] at h; exact ⟨_, h.2, h.1, rfl⟩
  | false =>
    rw [hagg] at h
    obtain ⟨d, hd, hK⟩ := h
    exact ⟨d, hK, d, hd, rfl⟩

section loads
variable {Y : Sy} {E : Env Y} {o : Oper} {σ : List (Nat × D)} {S : Store} {nx : Nat} {K : KT}
theorem vLoad_ok {t : Nat} {x : Operand} (ho : o.op = .load t x) (h : vLoad E t (evD E.gl σ x) S nx K) : VopRes E o σ S nx K := by
  obtain ⟨ti, hti, h⟩ := h
  have hdef : ∀ c, o.op ≠ .defer c := by rw [ho]; simp
  have hx : x ∈ o.op.operands := by rw [ho]; simp [Op.operands]
  have hrun : ∀ (a : Act) (w : World) (ad : Addr) (v : Value), a.eval x = .pointer (some ad) → (loadVar t ad).run E.P w = .ok v w → (execOp a.eval o).run E.P w = .ok (.value v) w := by
    intro a w ad v h1 h2
    simp [execOp, ho, Instr.loadAt, h1, Instr.sureAddr, h2]
  cases hev : evD E.gl σ x <;> rw [hev] at h <;> simp only at h
  case ep cs =>
    obtain ⟨d, hK, hd⟩ := loadD_det h
    refine VopRes.pure (acts_read hdef fun a w g hr hu _ => ?_) hK
    have hrep := rep_eval hr hu hx
    rw [hev] at hrep
    simp only [Rep] at hrep
    obtain ⟨ad, vs, h1, hz, hc, hl⟩ := hrep
    obtain ⟨v, d', hv, hd', rfl⟩ := run_load hti hc hl.ofCl hd
    exact ⟨v, hrun a w ad v h1 hv, hd'⟩
  case ref l off =>
    obtain ⟨ob, hob, h⟩ := h
    cases ob <;> simp only at h
    case box cs =>
      obtain ⟨d, hK, hd⟩ := loadD_det h
      refine VopRes.read hob (acts_read hdef fun a w g hr hu hs => ?_) hK
      have hrep := rep_eval hr hu hx
      rw [hev] at hrep
      simp only [Rep] at hrep
      obtain ⟨b, c, hφ, h1⟩ := hrep
      obtain ⟨b', c', arr, ty, hφ', hh, hl⟩ := box_of hs
      rw [hφ] at hφ'
      cases hφ'
      obtain ⟨v, d', hv, hd', rfl⟩ := run_load hti (cellsAt_block hh off) (hl.drop off) hd
      exact ⟨v, hrun a w _ v h1 hv, hd'⟩
  case oel l size i j =>
    obtain ⟨ob, hob, h⟩ := h
    cases ob <;> simp only at h
    case row ty sz es =>
      obtain ⟨rfl, e, he, h⟩ := h
      obtain ⟨d, hK, hd⟩ := loadD_det h
      refine VopRes.read hob (acts_read hdef fun a w g hr hu hs => ?_) hK
      have hrep := rep_eval hr hu hx
      rw [hev] at hrep
      simp only [Rep] at hrep
      obtain ⟨b, c, hφ, h1⟩ := hrep
      obtain ⟨p, hφ', hor⟩ := obj_of hs
      rw [hφ] at hφ'
      cases hφ'
      rcases hor with ⟨h2, _⟩ | ⟨b', arr, h2, hh, _, _, _, _, hre⟩
      · cases h2
      · cases h2
        obtain ⟨vs, hc, hl⟩ := hre.get he
        have hadd : (⟨b, 0, none⟩ : Addr).add ((0 + i) * size) = ⟨b, i * size, none⟩ := by
          unfold Addr.add; split <;> simp_all
        rw [hadd] at hc
        have hc' := hc.drop j
        have hadd2 : (⟨b, i * size, none⟩ : Addr).add j = ⟨b, i * size + j, none⟩ := by
          unfold Addr.add; split <;> simp_all
        rw [hadd2] at hc'
        obtain ⟨v, d', hv, hd', rfl⟩ := run_load hti hc' (hl.drop j) hd
        exact ⟨v, hrun a w _ v h1 hv, hd'⟩
end loads
end Go.Abs
