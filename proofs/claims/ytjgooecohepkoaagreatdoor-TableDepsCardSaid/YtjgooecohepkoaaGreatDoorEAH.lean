/- An abstract walk over the model: what a function does, as a computation on described values; proved once for all functions. -/
import Derived.Test.YtjgooecohepkoaaGreatDoorEAG
set_option linter.unusedVariables false
set_option linter.unusedSimpArgs false
namespace Go.Abs
open Go
section
variable {Y : Sy} {E : Env Y} {st st' : St} {Q Q' : Exit → St → Prop} {c c' : Code}

theorem tr_drawn {own : Nat → Prop} (w : World) (g : G) (k : Nat) : Tr own w g { w with drawn := k } g :=
  ⟨rfl, rfl, rfl, Nat.le_refl _, fun _ _ _ => rfl, fun _ h => h, fun _ h _ _ => h, fun _ _ h => h, fun l b c h1 h2 => by rw [h1] at h2; cases h2⟩
theorem SimA.drawn {a : Act} {w : World} {g : G} (h : SimA E st a w g) (k : Nat) : SimA E st a { w with drawn := k } g := by
  have htr : Tr (fun _ => False) w g { w with drawn := k } g := tr_drawn w g k
  refine ⟨⟨h.rc.tr.trans htr (fun _ _ h => h.elim), ⟨h.rc.wf.zlt, h.rc.wf.flt⟩⟩, fun t => (h.tm t).tr htr h.rc.wf (fun _ _ h => h), ⟨fun l o ho => ?_, h.ss.apart⟩, h.sz, h.df.tr htr h.rc.wf (fun _ _ h => h), h.nm⟩
  obtain ⟨p, hp, hob, hn⟩ := h.ss.obj l o ho
  refine ⟨p, hp, hob.tr htr h.rc.wf (fun _ _ h => h) (fun b hb => ⟨fun h => h, ?_⟩), hn⟩
  obtain ⟨p1, p2⟩ := p
  simp only at hb
  subst hb
  exact h.rc.wf.flt l b p2 hp

theorem W.region {id : Nat} {ops : Array Oper} {draw : Bool} {N : Nat} (fz : List Nat) (hN : E.N = N)
    (h : vops E N fz ops draw (fun σ S nx => Q .normal ⟨σ, S, nx, st.ds⟩) ops.toList st.σ st.S st.nx []) : W E (.region id ops draw) st Q := by
  let f0 : Loc → Option Cn := fun | .inl t => some (.inl (getT st.σ t)) | .inr l => (look st.S l).map .inr
  have hmt0 : Mt f0 st.σ st.S := by
    refine ⟨fun t => rfl, fun l => ?_⟩
    simp only [fS, f0]
    cases look st.S l <;> rfl
  obtain ⟨acc', hchk⟩ := dst_ok h
  have hdst : ∀ o ∈ ops.toList, ∀ t, o.dst = some t → t < N := by
    intro o ho t ht
    simp only [chk, Bool.and_eq_true, List.all_eq_true] at hchk
    have := hchk.1 o ho
    rw [ht] at this
    simpa [Nat.blt_eq] using this
  have hrn : rn ops f0 [] = f0 := by simp [rn, acs, run]
  obtain ⟨sds, nw, σ', S', _, p2, p3, p4, p5, p6, p7, p8, p9⟩ := vops_ok (E := E) (f0 := f0) hN hdst ops.toList [] [] st.σ st.S st.nx [] (by simp) rfl rfl (by simp [sks]) (by rw [hrn]; exact hmt0) h
  have htake : ∀ i, acs ops (sds.take i) = (acs ops sds).take i := by
    intro i
    unfold acs
    rw [List.take_zipWith]
    have : List.zipWith (acOf ops) ops.toList (sds.take i) = List.zipWith (acOf ops) (ops.toList.take i) (sds.take i) := by
      by_cases hi : ops.toList.length ≤ i
      · rw [List.take_of_length_le hi]
      · rw [← List.take_append_drop i ops.toList]
        have e := List.zipWith_append (f := acOf ops) (l₁ := ops.toList.take i) (l₁' := ops.toList.drop i) (l₂ := sds.take i) (l₂' := []) (by simp at hi ⊢; omega)
        simp only [List.append_nil, List.zipWith_nil_right] at e
        rw [e]
        congr 1
        rw [List.take_append_drop]
    exact this
  have hp : Plan E ops sds f0 nw := ⟨p2, fun i o sd ho hsd => by have := p5 i o sd (by simp) ho hsd; unfold rn at this; rwa [htake] at this, fun i => p4 i (by simp), fun i use p d q chg hs => p6 i use p d q chg (by simp) hs⟩
  intro a w g hs
  have hQ : ∀ (ds : List Deferred) a w g, Reach E w g → StOK E ds a w g (run (acs ops sds) (fun _ => true) 0 f0) → (∀ l, g.φ l ≠ none → l < nw ops.size) → SQ E Q .normal a w := by
    intro ds a w g hr hst hn
    refine ⟨_, g, p8, hr, fun t => ?_, ?_, hst.sz, hst.df ▸ hst.mks, hn⟩
    · have := hst.tm t
      have e := p7.t t
      unfold rn at e
      rwa [e] at this
    · have : fS (run (acs ops sds) (fun _ => true) 0 f0) = look S' := funext p7.s
      rw [← this]
      exact hst.st
  have hst : ∀ a w g, SimA E st a w g → StOK E a.defers a w g f0 := by
    intro a w g hs
    refine ⟨fun t => by rw [hmt0.t]; exact hs.tm t, ?_, hs.sz, rfl, hs.df⟩
    have : fS f0 = look st.S := funext hmt0.s
    rw [this]; exact hs.ss
  have hnw : nw 0 = st.nx := by simpa using p3
  cases draw with
  | false =>
    refine wpIn_region ?_
    rw [List.range_eq_range']
    refine plan_lex hp (hQ a.defers) ops.size 0 (by omega) a w g hs.rc ?_ ?_
    · simp only [List.take_zero, run]; exact hst a w g hs
    · intro l hl
      exact .inl (by rw [hnw]; exact hs.nm l hl)
  | true =>
    obtain ⟨hb, ho⟩ := p9 rfl
    refine wpIn_region_any E.hm ?_
    have hs' := hs.drawn (w.drawn + 1)
    refine plan_any hp (ordered_of ho) hb (hQ a.defers) ops.size (Array.replicate ops.size false) (List.range ops.size) (by simp) (by simp) (fun k hk _ => by simpa using hk) ?_ a _ g hs'.rc ?_ ?_
    · intro j o e h1
      have : (Array.replicate ops.size false).getD j false = false := by
        simp [Array.getD_eq_getD_getElem?, Array.getElem?_replicate]
        split <;> rfl
      rw [this] at h1; cases h1
    · have : run (acs ops sds) (fun k => (Array.replicate ops.size false).getD k false) 0 f0 = f0 := by
        funext l
        refine run_not ?_ 
        intro k b hk _
        simp [Array.getD_eq_getD_getElem?, Array.getElem?_replicate]
        split <;> rfl
      rw [this]
      exact hst a _ g hs'
    · intro l hl
      exact .inl (by rw [hnw]; exact hs.nm l hl)

theorem W.scope (h : W E c st (scopeQ Q)) : W E (.scope c) st Q := fun a w g hs => by
  intro b k cs hro hb hr
  have h0 : (lone (b.atR a (.code (.scope c) :: k)) cs w).fenced E.P E.F := fenced_calm hb hr rfl
  obtain ⟨e, a₁, w₁, hq, harr⟩ := h a w g hs b (.inScope c :: k) cs hro hb hr
  have s1 : step E.P (lone (b.atR a (.code (.scope c) :: k)) cs w) = .next (lone (b.atR a (.code c :: .inScope c :: k)) cs w) := step_lone_go (by simp [stepG, stepG.exec, Frame.atR])
  have s2 : ∀ a w, step E.P (lone (b.atR a (.inScope c :: k)) cs w) = .next (lone (b.atR a k) cs w) := fun a w => step_lone_go (by simp [stepG, stepG.exec, Frame.atR])
  cases e with
  | normal => exact ⟨.normal, a₁, w₁, hq, .head h0 s1 (StepsIn.trans harr (.one (fenced_calm hb hr rfl) (s2 _ _)))⟩
  | exit id => exact ⟨.exit id, a₁, w₁, hq, fun k' hk => .head h0 s1 (harr.1 k' (by simp [exitTo, hk])),
      fun hr' hk => let ⟨k₁, h1, h2⟩ := harr.2 hr' (by simpa [exitTo] using hk); ⟨k₁, h1, .head h0 s1 h2⟩⟩
  | goto l => obtain ⟨_, _, hq, _⟩ := hq; exact hq.elim
  | ret => exact ⟨_, a₁, w₁, hq, .of_steps (.one h0 s1) harr⟩
  | panic ch => exact ⟨_, a₁, w₁, hq, .of_steps (.one h0 s1) harr⟩
  | outgrown => exact ⟨_, a₁, w₁, hq, .of_steps (.one h0 s1) harr⟩
end
end Go.Abs
