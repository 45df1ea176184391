/- An abstract walk over the model: what a function does, as a computation on described values; proved once for all functions. -/
import Derived.Test.YtjgooecohepkoaaGreatDoorEAJ
import Derived.RangeFuncNested
set_option linter.unusedVariables false
set_option linter.unusedSimpArgs false
namespace Go.Abs
open Go

section
variable {Y : Sy} {E : Env Y} {st : St} {a : Act} {w : World} {g : G}

/-- The record of a range over a function turns. -/
theorem SimA.putLp {l : Nat} {s : LoopState} {pd : Option Code} {σ : List (Nat × D)} {n : Nat} {ps : List Nat} {as bd : Code} (hs : SimA E st a w g) (hl : look st.S l = some (.lp s pd σ n ps as bd)) :
    ∃ b c r, g.φ l = some (some b, c) ∧ w.heap[b]? = some (.loop r) ∧ r.state = s ∧ r.pending = pd ∧ r.params.toList = ps ∧ r.assign = as ∧ r.body = bd ∧ RepT w g n r.tmps σ ∧
      ∀ s' pd', SimA E ⟨st.σ, putS st.S l (.lp s' pd' σ n ps as bd), st.nx, st.ds⟩ a (w.putObj b (.loop { r with state := s', pending := pd' })) g := by
  obtain ⟨⟨p1, p2⟩, hp, ⟨b, r, hb, h1, h2, h3, h4, h5, h6, h7⟩, hn⟩ := hs.ss.obj l _ hl
  simp only at hb
  subst hb
  refine ⟨b, p2, r, hp, h1, h2, h3, h4, h5, h6, h7, fun s' pd' => ?_⟩
  have hlt : b < w.heap.size := (Array.getElem?_eq_some_iff.1 h1).1
  have tr : Tr (fun k => k = b) w g (w.putObj b (.loop { r with state := s', pending := pd' })) g :=
    ⟨rfl, rfl, rfl, by rw [World.putObj_size]; exact Nat.le_refl _, fun k _ hk => World.putObj_heap_other hk, fun _ h => h, fun _ h _ _ => h, fun _ _ h => h, fun l b c h1 h2 => by rw [h1] at h2; cases h2⟩
  have hz : ∀ k, g.Z k → ¬ k = b := fun k hk e => (hn b rfl).1 (e ▸ hk)
  refine ⟨⟨hs.rc.tr.trans tr fun k hk e => ?_, ⟨fun k hk => ?_, fun l b c hk => ?_⟩⟩, fun t => (hs.tm t).tr tr hs.rc.wf hz, ⟨fun l' o ho => ?_, fun l1 l2 k x x' q1 q2 hne => ?_⟩, hs.sz, hs.df.tr tr hs.rc.wf hz, hs.nm⟩
  · subst e; exact (hn k rfl).2 hk
  · rw [World.putObj_size]; exact hs.rc.wf.zlt k hk
  · rw [World.putObj_size]; exact hs.rc.wf.flt l b c hk
  · simp only [look_putS] at ho
    split at ho
    · rename_i e
      subst e
      cases ho
      exact ⟨_, hp, ⟨b, _, rfl, World.putObj_heap_same hlt, rfl, rfl, h4, h5, h6, h7.mono fun _ _ hx => hx.tr tr hs.rc.wf hz⟩, hn⟩
    · rename_i hne
      obtain ⟨p', hp', ho', hn'⟩ := hs.ss.obj l' o ho
      refine ⟨p', hp', ho'.tr tr hs.rc.wf hz fun k hk => ⟨?_, ?_⟩, hn'⟩
      · rintro rfl
        obtain ⟨p1', p2'⟩ := p'
        simp only at hk
        subst hk
        exact hs.ss.apart l l' _ _ _ (by rw [hl]; simp) (by rw [ho]; simp) hne hp hp'
      · obtain ⟨p1', p2'⟩ := p'
        simp only at hk
        subst hk
        exact hs.rc.wf.flt _ _ _ hp'
  · refine hs.ss.apart l1 l2 k x x' ?_ ?_ hne
    · intro e; simp only [look_putS] at q1; split at q1
      · rename_i e'; subst e'; rw [hl] at e; cases e
      · exact q1 e
    · intro e; simp only [look_putS] at q2; split at q2
      · rename_i e'; subst e'; rw [hl] at e; cases e
      · exact q2 e

/-- A new object under the next name. -/
theorem SimA.alloc (hs : SimA E st a w g) (o : Obj) {ob : AO} (hob : ObjRep (w.alloc o) (named g st.nx (some w.heap.size, 0)) (some w.heap.size, 0) ob) :
    SimA E ⟨st.σ, (st.nx, ob) :: st.S, st.nx + 1, st.ds⟩ a (w.alloc o) (named g st.nx (some w.heap.size, 0)) := by
  have hφ : g.φ st.nx = none := by
    cases h : g.φ st.nx with
    | none => rfl
    | some p => have := hs.nm st.nx (by rw [h]; simp); omega
  have tr := tr_alloc_named (w := w) hφ o 0
  have hwf : WF (w.alloc o) (named g st.nx (some w.heap.size, 0)) := by
    refine ⟨fun b h => ?_, fun l b c h => ?_⟩
    · rw [alloc_size]; have := hs.rc.wf.zlt b h; omega
    · rw [alloc_size]
      simp only [named] at h
      split at h
      · cases h; omega
      · have := hs.rc.wf.flt l b c h; omega
  have hz : ∀ b, g.Z b → ¬ False := fun _ _ h => h
  refine ⟨⟨hs.rc.tr.trans tr (fun _ _ h => h.elim), hwf⟩, fun t => (hs.tm t).tr tr hs.rc.wf hz, ⟨fun l o' h => ?_, fun l1 l2 b x x' q1 q2 hne hp hp' => ?_⟩, hs.sz, hs.df.tr tr hs.rc.wf hz, fun l h => ?_⟩
  · simp only [look] at h
    split at h
    · rename_i e; subst e; cases h
      refine ⟨(some w.heap.size, 0), by simp [named], hob, fun b hb => ?_⟩
      simp only [Option.some.injEq] at hb
      subst hb
      refine ⟨fun hz => ?_, fun hlt => ?_⟩
      · have := hs.rc.wf.zlt _ hz; omega
      · have := hs.rc.tr.size; omega
    · obtain ⟨p, hp, ho, hn⟩ := hs.ss.obj l o' h
      refine ⟨p, tr.fmono _ _ hp, ho.tr tr hs.rc.wf hz (fun b hb => ⟨fun h => h, ?_⟩), fun b hb => ⟨(hn b hb).1, (hn b hb).2⟩⟩
      obtain ⟨p1, p2⟩ := p
      simp only at hb
      subst hb
      exact hs.rc.wf.flt _ _ _ hp
  · simp only [named] at hp hp'
    simp only [look] at q1 q2
    split at hp
    · rename_i e1
      split at hp'
      · rename_i e2; exact hne (e1.trans e2.symm)
      · cases hp
        have := hs.rc.wf.flt _ _ _ hp'
        omega
    · rename_i e1
      split at hp'
      · cases hp'
        have := hs.rc.wf.flt _ _ _ hp
        omega
      · rename_i e2
        rw [if_neg (Ne.symm e1)] at q1
        rw [if_neg (Ne.symm e2)] at q2
        exact hs.ss.apart l1 l2 b x x' q1 q2 hne hp hp'
  · simp only [named] at h
    show l < st.nx + 1
    split at h
    · omega
    · have := hs.nm l h; omega

/-- The block for a range's deferred calls, with its mark. -/
theorem SimA.marked (hs : SimA E st a w g) : SimA E st { a with defers := mark w.heap.size :: a.defers } (w.alloc (.deferred (some []))) (frz g w.heap.size) := by
  have tr := tr_alloc_frz (w := w) (g := g) (.deferred (some []))
  have hz : ∀ b, g.Z b → ¬ False := fun _ _ h => h
  have hwf : WF (w.alloc (.deferred (some []))) (frz g w.heap.size) := by
    refine ⟨fun b h => ?_, fun l b c h => ?_⟩
    · rw [alloc_size]
      rcases h with h | h
      · have := hs.rc.wf.zlt b h; omega
      · omega
    · rw [alloc_size]; have := hs.rc.wf.flt l b c h; omega
  have hd := hs.df.tr tr hs.rc.wf hz
  refine ⟨⟨hs.rc.tr.trans tr (fun _ _ h => h.elim), hwf⟩, fun t => (hs.tm t).tr tr hs.rc.wf hz, ⟨fun l o' h => ?_, hs.ss.apart⟩, hs.sz, ⟨?_, fun d hd' => ?_⟩, hs.nm⟩
  · obtain ⟨p, hp, ho, hn⟩ := hs.ss.obj l o' h
    have hlt : ∀ b, p.1 = some b → b < w.heap.size := by
      intro b hb
      obtain ⟨p1, p2⟩ := p
      simp only at hb
      subst hb
      exact hs.rc.wf.flt _ _ _ hp
    refine ⟨p, hp, ho.tr tr hs.rc.wf hz (fun b hb => ⟨fun h => h, hlt b hb⟩), fun b hb => ⟨fun hzb => ?_, (hn b hb).2⟩⟩
    rcases hzb with hzb | hzb
    · exact (hn b hb).1 hzb
    · have := hlt b hb; omega
  · refine List.nodup_cons.2 ⟨fun hm => ?_, hd.1⟩
    obtain ⟨r, h1, _, h3, _⟩ := hs.df.2 _ hm
    have h4 : r = w.heap.size := by
      have := h1
      simp only [mark, Deferred.mk.injEq, Target.collected.injEq, and_true] at this
      exact this.symm
    have := hs.rc.wf.zlt r h3
    omega
  · rcases List.mem_cons.1 hd' with rfl | hd'
    · exact ⟨_, rfl, hs.rc.tr.size, .inr rfl, heap_alloc_new w _⟩
    · exact hd.2 d hd'

/-- Behind a call. -/
theorem SimA.move (hs : SimA E st a w g) {pre post : Store} {nx' : Nat} (ht : Touch st.S st.nx pre post nx') {w' : World} {g' : G} (hm : Move E (look pre) (look post) w g w' g') :
    SimA E ⟨st.σ, putAll (delAll st.S (namesL pre)) post, nx', st.ds⟩ a w' g' := by
  obtain ⟨h1, h2, h3⟩ := ht
  have hsub : ∀ l o, look pre l = some o → look st.S l = some o := fun l o h => h1 (l, o) (look_mem h)
  have hsp : SimS E w g (look pre) := hs.ss.sub hsub
  have hnewl : ∀ l, look pre l = none → look post l ≠ none → st.nx ≤ l ∧ l < nx' := fun l hl hl' => by
    cases hp : look post l with
    | none => exact absurd hp hl'
    | some ob => exact h3 (l, ob) (look_mem hp) hl
  have hfr : ∀ l, st.nx ≤ l → g.φ l = none := fun l hl => by
    cases h : g.φ l with
    | none => rfl
    | some p => have := hs.nm l (by rw [h]; simp); omega
  refine ⟨hm.reach hs.rc hsp, fun t => (hs.tm t).tr hm.tr hs.rc.wf hsp.own_z, hs.ss.frame hs.rc.wf hsub hm (fun l q1 q2 => ?_) (fun l => ?_), hs.sz, hs.df.tr hm.tr hs.rc.wf hsp.own_z, fun l hl => ?_⟩
  · have := hnewl l q1 q2
    refine ⟨?_, hfr l this.1⟩
    cases ho : look st.S l with
    | none => rfl
    | some o => obtain ⟨p, hp, _⟩ := hs.ss.obj l o ho; rw [hfr l this.1] at hp; cases hp
  · rw [look_putAll, look_delAll]
    cases hp : look post l with
    | some o' => simp
    | none =>
      simp only [Option.none_or]
      by_cases hm : l ∈ namesL pre
      · have : look pre l ≠ none := fun h => look_none.1 h hm
        simp [hm, this]
      · simp [hm, look_none.2 hm]
  · rcases hm.dom l hl with h | h
    · have := hs.nm l h; show l < nx'; omega
    · cases hp : look pre l with
      | none => exact (hnewl l hp h).2
      | some o =>
        obtain ⟨p, hp', _⟩ := hsp.obj l o hp
        have := hs.nm l (by rw [hp']; simp)
        show l < nx'; omega

/-! ### A round -/
def zipT (σ : List (Nat × D)) : List Nat → List D → List (Nat × D)
  | t :: ps, d :: ds => zipT (setT σ t d) ps ds
  | _, _ => σ
theorem RepT.zip {n : Nat} : ∀ {ps : List Nat} {vs : List Value} {ds : List D} {tm : Array Value} {σ : List (Nat × D)}, (ps.all fun t => Nat.blt t n) = true → RepT w g n tm σ → RepL w g vs ds →
    RepT w g n ((ps.zip vs).foldl (fun tm x => tm.setIfInBounds x.1 x.2) tm) (zipT σ ps ds)
  | [], vs, ds, tm, σ, _, h, _ => by cases ds <;> simpa [zipT] using h
  | t :: ps, [], [], tm, σ, _, h, _ => by simpa [zipT] using h
  | t :: ps, [], _ :: _, tm, σ, _, _, h => by simp [RepL] at h
  | t :: ps, _ :: _, [], tm, σ, _, _, h => by simp [RepL] at h
  | t :: ps, v :: vs, d :: ds, tm, σ, hp, h, hl => by
    simp only [RepL] at hl
    simp only [List.all_cons, Bool.and_eq_true, Nat.blt_eq] at hp
    simp only [List.zip_cons_cons, List.foldl_cons, zipT]
    refine RepT.zip hp.2 ⟨by simpa using h.1, fun u => ?_⟩ hl.2
    simp only [getT_setT]
    split
    · rename_i e
      subst e
      rw [Array.getD_eq_getD_getElem?, Array.getElem?_setIfInBounds_self_of_lt (by rw [h.1]; exact hp.1)]
      exact hl.1
    · rename_i e
      rw [Array.getD_eq_getD_getElem?, Array.getElem?_setIfInBounds_ne e, ← Array.getD_eq_getD_getElem?]
      exact h.2 u

def jumpOf : Exit → Option (Option Code)
  | .normal => some none
  | .ret => some (some .ret)
  | .exit id => some (some (.exit id))
  | .goto t => some (some (.goto t))
  | _ => none
/-- How a round must end. -/
def RdDone {Y : Sy} (E : Env Y) (k l : Nat) (d : D) (post : Store) : Exit → St → Prop := fun e st =>
  ∃ j, jumpOf e = some j ∧ d = .v (.bool j.isNone) ∧ ∃ st', Into E st st' ∧ ∃ s pd σ n ps as bd, look st'.S l = some (.lp s pd σ n ps as bd) ∧
    ∃ m nx', renB k (putS st'.S l (.lp (if j.isNone then .ready else .done) j σ n ps as bd)) nx' m = true ∧ weakS (subS m (putS st'.S l (.lp (if j.isNone then .ready else .done) j σ n ps as bd)) m) post ∧ (m.all fun x => (look post x.1).isSome) = true

theorem RdOK.intro {Y : Sy} {l : Nat} {args : List D} {pre : Store} {d : D} {post : Store} {pd : Option Code} {σ : List (Nat × D)} {n : Nat} {ps : List Nat} {as bd : Code} (hl : look pre l = some (.lp .ready pd σ n ps as bd)) (n0 : Nat)
    (hpre : (pre.all fun x => Nat.blt x.1 n0) = true) (hargs : subL (idP pre) args = args) (hS : mapS (subO (idP pre)) pre = pre) (hlen : args.length = ps.length) (hps : (ps.all fun t => Nat.blt t n) = true)
    (h : ∀ E : Env Y, E.N = n → E.rd = some l → (∀ l', E.g0.φ l' ≠ none → l' < n0) → W E as ⟨zipT σ ps args, pre, n0, []⟩ (thenQ (fun stA => ∃ st1, Into E stA st1 ∧ ∃ pd1 σ1 n1 ps1 as1 bd1, look st1.S l = some (.lp .ready pd1 σ1 n1 ps1 as1 bd1) ∧
      W E bd ⟨st1.σ, putS st1.S l (.lp .busy pd1 σ1 n1 ps1 as1 bd1), st1.nx, []⟩ (RdDone E n0 l d post)) (fun _ _ => False))) : RdOK Y l args pre d post := by
  intro E w g vs hr hvs hs hfresh
  obtain ⟨⟨p1, c⟩, hp, ⟨b, r, hb, h1, h2, h3, h4, h5, h6, h7⟩, hn⟩ := hs.obj l _ hl
  simp only at hb
  subst hb
  have hgl : (gPre pre g).φ l = some (some b, c) := gPre_id l l _ (by simp [idP, hl]) hp
  let E1 : Env Y := ⟨E.F.inRound b, E.hF, E.hd, E.hal, n, w, gPre pre g, ownC g (look pre), hs.own_z, gPre_wf hr.wf, fun i => (E.hgl i).tr hr.tr.cl E.wf0.cl E.hz0, some l, ⟨b, c, rfl, hgl⟩⟩
  have hG : Given E E1 w g pre := ⟨hr, hs, rfl, rfl, rfl⟩
  obtain ⟨hr1, hs1⟩ := hG.sim hS
  have hargs1 := hG.args hargs hvs
  have h0 : ∀ l, E1.g0.φ l ≠ none → l < n0 := gPre_lt hpre
  have hvl : vs.length = args.length := hvs.length
  obtain ⟨⟨q1, c'⟩, hq, ⟨b', r', hb', k1, k2, k3, k4, k5, k6, k7⟩, _⟩ := hs1.obj l _ hl
  simp only at hb'
  subst hb'
  rw [hgl] at hq
  cases hq
  rw [h1] at k1
  cases k1
  have hrp : r.params = ps.toArray := by rw [← h4]
  have htm := RepT.zip hps k7 hargs1
  refine ⟨b, c, _, _, _, _, hp, run_yield h1 (by rw [hrp]; simp; omega), ?_⟩
  have etm : (r.params.zip vs.toArray).foldl (fun tmps (x : Nat × Value) => tmps.setIfInBounds x.1 x.2) r.tmps = (ps.zip vs).foldl (fun tm x => tm.setIfInBounds x.1 x.2) r.tmps := by
    rw [hrp]
    simp
  refine roundIn_of_wpIn (E.hF _) ?_
  rw [h5, h6]
  have hsim : SimA E1 ⟨zipT σ ps args, pre, n0, []⟩ { tmps := (ps.zip vs).foldl (fun tm x => tm.setIfInBounds x.1 x.2) r.tmps, defers := [] } w (gPre pre g) :=
    ⟨hr1, htm.2, hs1, htm.1, Marks.nil, fun l hl => h0 l hl⟩
  have hW := h E1 rfl rfl h0 _ w _ hsim
  have etm' : { tmps := (r.params.zip vs.toArray).foldl (fun tmps (t, a) => tmps.setIfInBounds t a) r.tmps, defers := [] } = ({ tmps := (ps.zip vs).foldl (fun tm x => tm.setIfInBounds x.1 x.2) r.tmps, defers := [] } : Act) := by
    congr 1
  rw [etm']
  refine wpIn_mono hW ?_
  rintro e a1 w1 ⟨stA, gA, q, hsA⟩
  cases e with
  | normal =>
    obtain ⟨st1, hiA, pd1, σ1, n1, ps1, as1, bd1, hlk, hbody⟩ := q
    obtain ⟨g1, hs1'⟩ := hiA _ _ _ hsA
    obtain ⟨b1, c1, r1, e1, e2, e3, e4, e5, e6, e7, e8, e9⟩ := hs1'.putLp hlk
    have hb1 : b1 = b := by
      have := hs1'.rc.tr.fmono l _ hgl
      rw [e1] at this
      cases this
      rfl
    subst hb1
    refine ⟨_, run_beginRound e2 e3, ?_⟩
    have hs2 := e9 .busy pd1
    rw [show ({ r1 with state := .busy, pending := pd1 } : Loop) = { r1 with state := .busy } by rw [← e4]] at hs2
    refine wpIn_mono (hbody a1 _ g1 ⟨hs2.rc, hs2.tm, hs2.ss, hs2.sz, hs2.df, hs2.nm⟩) ?_
    rintro e a2 w2 ⟨st2, g2, ⟨j, hj, rfl, st3, hinto, s, pd3, σ3, n3, ps3, as3, bd3, hlk3, m, nx', hm, hpost, hmp⟩, hs2'⟩
    obtain ⟨g3, hs3⟩ := hinto a2 w2 g2 hs2'
    obtain ⟨b3, c3, r3, f1, f2, f3, f4, f5, f6, f7, f8, f9⟩ := hs3.putLp hlk3
    have hb3 : b3 = b1 := by
      have := hs3.rc.tr.fmono l _ hgl
      rw [f1] at this
      cases this
      rfl
    subst hb3
    have hs4 := f9 (if j.isNone then .ready else .done) j
    obtain ⟨g4, hM, hrep⟩ := hG.fin h0 hfresh hs4.rc hs4.ss hm hpost hmp
    have hfin : ∃ v w', (Instr.endRound b3 j).run Y.P w2 = .ok v w' ∧ (∃ v' g', Ending.returned v = .returned v' ∧ Move E (look pre) (look post) w g w' g' ∧ Rep w' g' v' (.v (.bool j.isNone))) :=
      ⟨_, _, run_endRound j f2, _, g4, rfl, hM, by simp [Rep]⟩
    cases e <;> simp only [jumpOf, Option.some.injEq, reduceCtorEq] at hj <;> subst hj <;> exact hfin
  | _ => exact q
end
end Go.Abs
namespace Go.Abs
open Go

section
variable {Y : Sy} {E : Env Y} {st : St} {Q : Exit → St → Prop}
/-- Where a range over a function stands: in no round, or in one whose record is known. -/
def inRd {Y : Sy} (E : Env Y) (S : Store) : Prop := match E.rd with
  | none => True
  | some l => ∃ s pd σ n p a b, look S l = some (.lp s pd σ n p a b)
/-- Behind the call of the function that is ranged over. -/
def endRf {Y : Sy} (E : Env Y) (st : St) (Q : Exit → St → Prop) : KT := fun _ S' nx' _ _ =>
  ∃ s pd σ n p a b, look S' st.nx = some (.lp s pd σ n p a b) ∧ s ≠ .busy ∧ match pd with
    | none => Q .normal ⟨st.σ, delS S' st.nx, nx', st.ds⟩
    | some c => W E c ⟨st.σ, delS S' st.nx, nx', st.ds⟩ Q
theorem SimA.del {a : Act} {w : World} {g : G} (hs : SimA E st a w g) (S : Store) (h : ∀ l' o, look S l' = some o → look st.S l' = some o) : SimA E ⟨st.σ, S, st.nx, st.ds⟩ a w g :=
  ⟨hs.rc, hs.tm, hs.ss.sub h, hs.sz, hs.df, hs.nm⟩

theorem rep_operand {a : Act} {w : World} {g : G} (hs : SimA E st a w g) (x : Operand) : Rep w g (a.eval x) (evD E.gl st.σ x) := by
  cases x with
  | tmp t => exact hs.tm t
  | const v => exact rep_constD w g v
  | global i => exact ((E.hgl i).tr hs.rc.tr.cl E.wf0.cl E.hz0).ofCl
  | func f => simp [evD, Rep, Act.eval]
/-- A function's value at yield. -/
theorem callee_yield {a : Act} {w : World} {g : G} {f : Operand} {k nx : Nat} {args : List D} {b c : Nat} (hs : SimA E st a w g) (hv : vCallee (evD E.gl st.σ f) [.yl nx] = some (k, args)) (hφ : g.φ nx = some (some b, c)) :
    ∃ vs d, RepL w g vs args ∧ (∀ w', (resolve a.eval (rangeCall f b) 0).run E.P w' = .ok d w') ∧ (∀ w', (invoke d.target d.args).run E.P w' = (callFunc k vs.toArray).run E.P w') := by
  have e1 := rep_operand hs f
  have hy : RepL w g [.func (.yield b) #[] #[]] [D.yl nx] := by simp only [RepL, Rep]; exact ⟨⟨b, c, hφ, rfl⟩, trivial⟩
  unfold vCallee at hv
  split at hv
  · rename_i k' fi ca hev
    cases hv
    rw [hev] at e1
    simp only [Rep] at e1
    refine ⟨fi.toList ++ [.func (.yield b) #[] #[]] ++ ca.toList, { target := .fn (.func k) ca, args := fi ++ #[.func (.yield b) #[] #[]] }, ((RepL.of_v _).append hy).append (RepL.of_v _), fun w' => ?_, fun w' => ?_⟩
    · simp [resolve, e1, Deferred.ofValue, show a.eval (.const (.func (.yield b) #[] #[])) = .func (.yield b) #[] #[] from rfl]
    · have e : (fi.toList ++ [Value.func (.yield b) #[] #[]] ++ ca.toList).toArray = fi ++ #[Value.func (.yield b) #[] #[]] ++ ca := by apply Array.toList_inj.1; simp
      rw [e]
      simp [invoke]
  · rename_i k' fi ca hev
    cases hv
    rw [hev] at e1
    simp only [Rep] at e1
    obtain ⟨v1, v2, e1, r1, r2⟩ := e1
    refine ⟨v1 ++ [.func (.yield b) #[] #[]] ++ v2, { target := .fn (.func k) v2.toArray, args := v1.toArray ++ #[.func (.yield b) #[] #[]] }, (r1.append hy).append r2, fun w' => ?_, fun w' => ?_⟩
    · simp [resolve, e1, Deferred.ofValue, show a.eval (.const (.func (.yield b) #[] #[])) = .func (.yield b) #[] #[] from rfl]
    · simp [invoke]
  · cases hv

theorem W.rangeFunc {f : Operand} {ps : Array Tmp} {as bd : Code} {k : Nat} {args : List D} (hrd : inRd E st.S) (hv : vCallee (evD E.gl st.σ f) [.yl st.nx] = some (k, args))
    {pre post : Store} {d : D} {nx' : Nat} (hfn : FnOK Y k args pre d post) (ht : Touch ((st.nx, AO.lp .ready none st.σ E.N ps.toList as bd) :: st.S) (st.nx + 1) pre post nx')
    (hK : endRf E st Q d (putAll (delAll ((st.nx, AO.lp .ready none st.σ E.N ps.toList as bd) :: st.S) (namesL pre)) post) nx' [] []) : W E (.rangeFunc f ps as bd) st Q := fun a w g hs => by
  -- the record is laid
  have enter : ∀ fn, ∃ (l : Nat) (mark : List Deferred) (w1 : World) (g1 : G) (c : Nat), (Instr.enterLoop fn a.tmps ps as bd E.F.round).run E.P w = .ok (l, mark) w1 ∧ g1.φ st.nx = some (some l, c) ∧
      SimA E ⟨st.σ, (st.nx, AO.lp .ready none st.σ E.N ps.toList as bd) :: st.S, st.nx + 1, st.ds⟩ { a with defers := mark ++ a.defers } w1 g1 := by
    intro fn
    have hob : ∀ {a' : Act} {w' : World} {g' : G} (dd : Nat), a'.tmps = a.tmps → SimA E st a' w' g' → g'.φ st.nx = none → ObjRep (w'.alloc (.loop { state := .ready, pending := none, fn, tmps := a.tmps, params := ps, assign := as, body := bd, defers := dd })) (named g' st.nx (some w'.heap.size, 0)) (some w'.heap.size, 0)
        (AO.lp .ready none st.σ E.N ps.toList as bd) := by
      intro a' w' g' dd ha hs' hφ
      refine ⟨_, _, rfl, heap_alloc_new w' _, rfl, rfl, rfl, rfl, rfl, ?_, fun t => ?_⟩
      · rw [← ha]; exact hs'.sz
      · have := (hs'.tm t).tr (tr_alloc_named (w := w') hφ (.loop { state := .ready, pending := none, fn, tmps := a.tmps, params := ps, assign := as, body := bd, defers := dd }) 0) hs'.rc.wf (fun _ _ h => h)
        rwa [ha] at this
    have hφ : ∀ {a' : Act} {w' : World} {g' : G}, SimA E st a' w' g' → g'.φ st.nx = none := by
      intro a' w' g' hs'
      cases h : g'.φ st.nx with
      | none => rfl
      | some p => have := hs'.nm st.nx (by rw [h]; simp); omega
    cases hr : E.rd with
    | none =>
      have hround : E.F.round = none := by have := E.hrd; rw [hr] at this; exact this
      have hm := hs.marked
      refine ⟨_, _, _, named (frz g w.heap.size) st.nx (some (w.heap.size + 1), 0), 0, by rw [hround]; exact run_enterLoop_outer .., by simp [named], ?_⟩
      have := hm.alloc (.loop { state := .ready, pending := none, fn, tmps := a.tmps, params := ps, assign := as, body := bd, defers := w.heap.size }) (hob (a' := { a with defers := Abs.mark w.heap.size :: a.defers }) w.heap.size rfl hm (hφ hm))
      simpa [Abs.mark] using this
    | some l0 =>
      obtain ⟨b0, c0, hround, hφ0⟩ : ∃ b c, E.F.round = some b ∧ E.g0.φ l0 = some (some b, c) := by have := E.hrd; rw [hr] at this; exact this
      obtain ⟨s0, pd0, σ0, n0, p0, a0, bb0, hl0⟩ : ∃ s pd σ n p a b, look st.S l0 = some (.lp s pd σ n p a b) := by unfold inRd at hrd; rw [hr] at hrd; exact hrd
      obtain ⟨b1, c1, r0, q1, q2, _⟩ := hs.putLp hl0
      have hφ1 := hs.rc.tr.fmono _ _ hφ0
      rw [hφ1] at q1
      cases q1
      refine ⟨_, _, _, named g st.nx (some w.heap.size, 0), 0, by rw [hround]; exact run_enterLoop_inner q2 .., by simp [named], ?_⟩
      have := hs.alloc (.loop { state := .ready, pending := none, fn, tmps := a.tmps, params := ps, assign := as, body := bd, defers := r0.defers }) (hob r0.defers rfl hs (hφ hs))
      simpa using this
  refine wpIn_rangeFunc fun fn _ => ?_
  obtain ⟨l, mk, w1, g1, c, he, hφ, hs1⟩ := enter fn
  obtain ⟨vs, dd, hvs, hres, hinv⟩ := callee_yield (st := ⟨st.σ, (st.nx, AO.lp .ready none st.σ E.N ps.toList as bd) :: st.S, st.nx + 1, st.ds⟩) hs1 hv hφ
  obtain ⟨⟨fnc, f1, f2, f3⟩, hcall⟩ := hfn
  have hent : (callFunc k vs.toArray).run E.P w1 = .ok (.enter k vs.toArray) w1 := by
    have h1' : E.P.funcs[k]? = some fnc := f1
    have h2' : fnc.name ≠ "runtime.NumGoroutine" := by simpa using f2
    have h3' : fnc.body ≠ none := by intro e; rw [e] at f3; cases f3
    simp [callFunc, program, Sem.run, h1', h2', h3']
  have hsub : ∀ l o, look pre l = some o → look ((st.nx, AO.lp .ready none st.σ E.N ps.toList as bd) :: st.S) l = some o := fun l o h => ht.1 (l, o) (look_mem h)
  have hfresh : ∀ l, look pre l = none → look post l ≠ none → g1.φ l = none := fun l h1 h2 => by
    cases hp : look post l with
    | none => exact absurd hp h2
    | some o =>
      have h3 := ht.2.2 (l, o) (look_mem hp) h1
      cases h4 : g1.φ l with
      | none => rfl
      | some p => have := hs1.nm l (by rw [h4]; simp); simp only at this h3; omega
  refine ⟨l, mk, w1, dd, w1, k, vs.toArray, w1, he, hres w1, fun f' _ => E.hF f', by rw [hinv w1]; exact hent, fun h => (by rw [E.hd] at h; cases h), ?_⟩
  refine (hcall E w1 g1 vs hs1.rc hvs (hs1.ss.sub hsub) hfresh).mono ?_
  rintro e w2 ⟨v, g2, rfl, hM, _⟩
  have hs2 := hs1.move ht hM
  obtain ⟨s, pd, σ, n, p, a', b, q1, q2, q3⟩ := hK
  obtain ⟨b2, c2, r2, k1, k2, k3, k4, _, _, _, _, k5⟩ := hs2.putLp q1
  have hb2 : b2 = l := by
    have := hM.tr.fmono _ _ hφ
    rw [k1] at this
    cases this
    rfl
  subst hb2
  have hs3 := k5 .exhausted pd
  refine ⟨pd, _, by rw [← k4]; exact run_endLoop k2 (by rw [k3]; exact q2), ?_⟩
  have hs4 : SimA E ⟨st.σ, delS (putAll (delAll ((st.nx, AO.lp .ready none st.σ E.N ps.toList as bd) :: st.S) (namesL pre)) post) st.nx, nx', st.ds⟩ { a with defers := mk ++ a.defers } (w2.putObj b2 (.loop { r2 with state := .exhausted })) g2 := by
    rw [show ({ r2 with state := .exhausted, pending := pd } : Loop) = { r2 with state := .exhausted } by rw [← k4]] at hs3
    refine hs3.del _ fun l' o h => ?_
    simp only [look_delS] at h
    split at h
    · cases h
    · rename_i hne
      simp only [look_putS, if_neg hne]
      exact h
  cases pd with
  | none => exact ⟨_, g2, q3, hs4⟩
  | some cc => exact q3 _ _ _ hs4
end
end Go.Abs
namespace Go.Abs
open Go
/-! ### The same, as the kernel computes it fast -/
noncomputable def getB (σ : List (Nat × D)) (t : Nat) : D := List.rec (motive := fun _ => D) D.any (fun x _ ih => Bool.rec (motive := fun _ => D) ih x.2 (Nat.beq x.1 t)) σ
theorem beq_if {α : Type} (a b : Nat) (x y : α) : Bool.rec (motive := fun _ => α) y x (Nat.beq a b) = if a = b then x else y := by
  cases h : Nat.beq a b with
  | true => rw [if_pos (Nat.eq_of_beq_eq_true h)]
  | false => rw [if_neg (by intro e; subst e; simp at h)]
theorem getB_eq : getB = getT := by
  funext σ t
  induction σ with
  | nil => rfl
  | cons x r ih =>
    show Bool.rec (motive := fun _ => D) (getB r t) x.2 (Nat.beq x.1 t) = _
    rw [beq_if, ih]
    rfl
noncomputable def lookB (S : Store) (l : Nat) : Option AO := List.rec (motive := fun _ => Option AO) none (fun x _ ih => Bool.rec (motive := fun _ => Option AO) ih (some x.2) (Nat.beq x.1 l)) S
theorem lookB_eq : lookB = look := by
  funext σ t
  induction σ with
  | nil => rfl
  | cons x r ih =>
    show Bool.rec (motive := fun _ => Option AO) (lookB r t) (some x.2) (Nat.beq x.1 t) = _
    rw [beq_if, ih]
    rfl
noncomputable def evB (gl : Nat → D) (σ : List (Nat × D)) : Operand → D
  | .tmp t => getB σ t
  | .const v => constD v
  | .global g => gl g
  | .func f => .v (.func (.func f) #[] #[])
theorem evB_eq (gl : Nat → D) (σ : List (Nat × D)) : evB gl σ = evD gl σ := by
  funext x
  cases x <;> simp [evB, evD, getB_eq]
end Go.Abs
namespace Go.Abs
open Go
noncomputable def putB (S : Store) (l : Nat) (o : AO) : Store := List.rec (motive := fun _ => Store) [(l, o)] (fun x r ih => Bool.rec (motive := fun _ => Store) (x :: ih) ((l, o) :: r) (Nat.beq x.1 l)) S
theorem putB_eq : putB = putS := by
  funext S l o
  induction S with
  | nil => rfl
  | cons x r ih =>
    show Bool.rec (motive := fun _ => Store) (x :: putB r l o) ((l, o) :: r) (Nat.beq x.1 l) = _
    rw [beq_if, ih]
    rfl
noncomputable def delB (S : Store) (l : Nat) : Store := List.rec (motive := fun _ => Store) [] (fun x _ ih => Bool.rec (motive := fun _ => Store) (x :: ih) ih (Nat.beq x.1 l)) S
theorem delB_eq : delB = delS := by
  funext S l
  induction S with
  | nil => rfl
  | cons x r ih =>
    show Bool.rec (motive := fun _ => Store) (x :: delB r l) (delB r l) (Nat.beq x.1 l) = _
    rw [beq_if, ih]
    rfl
noncomputable def putAllB (S T : Store) : Store := List.rec (motive := fun _ => Store) S (fun x _ ih => putB ih x.1 x.2) T
theorem putAllB_eq : putAllB = putAll := by
  funext S T
  induction T with
  | nil => rfl
  | cons x r ih =>
    show putB (putAllB S r) x.1 x.2 = _
    rw [putB_eq, ih]
    rfl
noncomputable def delAllB (S : Store) (L : List Nat) : Store := List.rec (motive := fun _ => Store) S (fun x _ ih => delB ih x) L
theorem delAllB_eq : delAllB = delAll := by
  funext S T
  induction T with
  | nil => rfl
  | cons x r ih =>
    show delB (delAllB S r) x = _
    rw [delB_eq, ih]
    rfl
noncomputable def idB (S : Store) (l : Nat) : Option Nat := List.rec (motive := fun _ => Option Nat) none (fun x _ ih => Bool.rec (motive := fun _ => Option Nat) ih (some l) (Nat.beq x.1 l)) S
theorem idB_eq : idB = idP := by
  funext S l
  induction S with
  | nil => rfl
  | cons x r ih =>
    show Bool.rec (motive := fun _ => Option Nat) (idB r l) (some l) (Nat.beq x.1 l) = _
    rw [beq_if, ih]
    unfold idP
    simp only [look]
    split <;> rfl
noncomputable def newB (m : List (Nat × Nat)) (l : Nat) : Option Nat := List.rec (motive := fun _ => Option Nat) none (fun x _ ih => Bool.rec (motive := fun _ => Option Nat) ih (some x.1) (Nat.beq x.2 l)) m
theorem newB_eq : newB = newOf := by
  funext m l
  induction m with
  | nil => rfl
  | cons x r ih =>
    show Bool.rec (motive := fun _ => Option Nat) (newB r l) (some x.1) (Nat.beq x.2 l) = _
    rw [beq_if, ih]
    rfl
noncomputable def pickB (S : Store) (L : List Nat) : Store := List.rec (motive := fun _ => Store) [] (fun l _ ih => Option.rec (motive := fun _ => Store) ih (fun o => (l, o) :: ih) (lookB S l)) L
theorem pickB_eq : pickB = pickS := by
  funext S L
  induction L with
  | nil => rfl
  | cons l r ih =>
    show Option.rec (motive := fun _ => Store) (pickB S r) (fun o => (l, o) :: pickB S r) (lookB S l) = _
    rw [lookB_eq, ih]
    simp only [pickS]
    cases look S l <;> rfl
noncomputable def subSB (m : List (Nat × Nat)) (S : Store) (r : List (Nat × Nat)) : Store := List.rec (motive := fun _ => Store) [] (fun x _ ih => Option.rec (motive := fun _ => Store) ih (fun ob => (x.1, subO (newB m) ob) :: ih) (lookB S x.2)) r
theorem subSB_eq : subSB = subS := by
  funext m S r
  induction r with
  | nil => rfl
  | cons x r ih =>
    show Option.rec (motive := fun _ => Store) (subSB m S r) (fun ob => (x.1, subO (newB m) ob) :: subSB m S r) (lookB S x.2) = _
    rw [lookB_eq, newB_eq, ih]
    simp only [subS]
    cases look S x.2 <;> rfl
noncomputable def allB {α : Type} (p : α → Bool) (l : List α) : Bool := List.rec (motive := fun _ => Bool) true (fun x _ ih => Bool.rec (motive := fun _ => Bool) false ih (p x)) l
theorem allB_eq {α : Type} (p : α → Bool) (l : List α) : allB p l = l.all p := by
  induction l with
  | nil => rfl
  | cons x r ih =>
    show Bool.rec (motive := fun _ => Bool) false (allB p r) (p x) = _
    rw [ih, List.all_cons]
    cases p x <;> rfl
noncomputable def injBB (m : List (Nat × Nat)) : Bool := List.rec (motive := fun _ => Bool) true (fun x r ih => Bool.rec (motive := fun _ => Bool) false ih (allB (fun y => Bool.rec (motive := fun _ => Bool) (Bool.rec (motive := fun _ => Bool) true false (Nat.beq y.2 x.2)) false (Nat.beq y.1 x.1)) r)) m
theorem injBB_eq : injBB = injB := by
  funext m
  induction m with
  | nil => rfl
  | cons x r ih =>
    show Bool.rec (motive := fun _ => Bool) false (injBB r) (allB _ r) = _
    rw [allB_eq, ih]
    obtain ⟨n, o⟩ := x
    simp only [injB]
    have e : (r.all fun y => Bool.rec (motive := fun _ => Bool) (Bool.rec (motive := fun _ => Bool) true false (Nat.beq y.2 o)) false (Nat.beq y.1 n)) = r.all fun x => !Nat.beq x.1 n && !Nat.beq x.2 o := by
      congr 1
      funext y
      cases Nat.beq y.1 n <;> cases Nat.beq y.2 o <;> rfl
    rw [e]
    cases (r.all fun x => !Nat.beq x.1 n && !Nat.beq x.2 o) <;> rfl
noncomputable def renBB (k : Nat) (S : Store) (nx' : Nat) (m : List (Nat × Nat)) : Bool :=
  injBB m && (Nat.ble k nx' && allB (fun x => (Nat.beq x.1 x.2 || Nat.ble k x.1) && ((lookB S x.2).isSome && Nat.blt x.1 nx')) m)
theorem renBB_eq : renBB = renB := by
  funext k S nx' m
  unfold renBB renB
  rw [injBB_eq, allB_eq, lookB_eq, Bool.and_assoc]
  congr 3
  funext x
  rw [Bool.and_assoc]
end Go.Abs
namespace Go.Abs
open Go
/-- A table by number. -/
inductive Tree (α : Type) where
  | leaf
  | node (l : Tree α) (k : Nat) (x : α) (r : Tree α)
noncomputable def Tree.get {α : Type} (t : Tree α) (n : Nat) : Option α :=
  Tree.rec (motive := fun _ => Option α) none (fun _ k x _ il ir => Bool.rec (motive := fun _ => Option α) (Bool.rec (motive := fun _ => Option α) ir il (Nat.blt n k)) (some x) (Nat.beq n k)) t
def Tree.All {α : Type} (p : Nat → α → Prop) : Tree α → Prop
  | .leaf => True
  | .node l k x r => Tree.All p l ∧ p k x ∧ Tree.All p r
theorem Tree.get_all {α : Type} {p : Nat → α → Prop} : ∀ {t : Tree α}, t.All p → ∀ n x, t.get n = some x → p n x
  | .leaf, _, n, x, h => by simp [Tree.get] at h
  | .node l k y r, ha, n, x, h => by
    have h' : Bool.rec (motive := fun _ => Option α) (Bool.rec (motive := fun _ => Option α) (r.get n) (l.get n) (Nat.blt n k)) (some y) (Nat.beq n k) = some x := h
    cases e : Nat.beq n k with
    | true =>
      rw [e] at h'
      have := Nat.eq_of_beq_eq_true e
      subst this
      cases h'
      exact ha.2.1
    | false =>
      rw [e] at h'
      cases e2 : Nat.blt n k with
      | true => rw [e2] at h'; exact Tree.get_all ha.1 n x h'
      | false => rw [e2] at h'; exact Tree.get_all ha.2.2 n x h'
end Go.Abs
namespace Go.Abs
set_option linter.unusedSimpArgs false
open Go

/-! ### The walk, carried out: every operation as a function -/
noncomputable def whn {α : Type} (b : Bool) (x : Option α) : Option α := match b with | true => x | false => none
theorem whn_some {α : Type} {b : Bool} {x : Option α} {r : α} : whn b x = some r ↔ b = true ∧ x = some r := by
  cases b <;> simp [whn]
abbrev XR := D × Store × Nat × List Nat × List Nat

section
variable (T : Nat → Option TI)
noncomputable def xLoadD (ti : TI) (cs : List D) : Option D := match ti.agg with | true => whn (Nat.ble ti.size cs.length) (some (.agg (cs.take ti.size))) | false => cs.head?
noncomputable def xLoad (t : Nat) (x : D) (S : Store) (nx : Nat) : Option XR := (T t).bind fun ti => match x with
  | .ep cs => (xLoadD ti cs).map fun d => (d, S, nx, [], [])
  | .ref l off => match lookB S l with
    | some (.box cs) => (xLoadD ti (cs.drop off)).map fun d => (d, S, nx, [l], [])
    | _ => none
  | .oel l size i j => match lookB S l with
    | some (.row _ sz es) => whn (Nat.beq size sz) ((es[i]?).bind fun e => (xLoadD ti (e.drop j)).map fun d => (d, S, nx, [l], []))
    | _ => none
  | _ => none
noncomputable def xMove (x : D) (S : Store) (nx : Nat) : Option XR := some (x, S, nx, [], [])
noncomputable def xPick (c x y : D) (S : Store) (nx : Nat) : Option XR := match c with
  | .v (.bool true) => some (x, S, nx, [], [])
  | .v (.bool false) => some (y, S, nx, [], [])
  | _ => none
noncomputable def xNil (x : D) (S : Store) (nx : Nat) : Option XR := whn (isPtr x) (some (x, S, nx, [], []))
noncomputable def xExtract (x : D) (i : Nat) (S : Store) (nx : Nat) : Option XR := match x with
  | .tup ds => (ds[i]?).map fun d => (d, S, nx, [], [])
  | _ => none
noncomputable def xNew (cs : List D) (S : Store) (nx : Nat) : Option XR := some (.ref nx 0, putB S nx (.box cs), nx + 1, [], [nx])
noncomputable def xBox (x : D) (S : Store) (nx : Nat) : Option XR := (cellsD x).bind fun cs => xNew cs S nx
noncomputable def xAlloc (t : Nat) (S : Store) (nx : Nat) : Option XR := (T t).bind fun ti => xNew ti.zero S nx
noncomputable def xFieldAddr (t : Nat) (x : D) (f : Nat) (S : Store) (nx : Nat) : Option XR := (T t).bind fun ti => match ti.k with
  | .struct fs => (fs[f]?).bind fun p => (T p.2).bind fun fi => whn (!Nat.beq fi.size 0) ((addD x p.1).map fun d => (d, S, nx, [], []))
  | _ => none
noncomputable def xField (t : Nat) (x : D) (f : Nat) (S : Store) (nx : Nat) : Option XR := (T t).bind fun ti => match ti.k, x with
  | .struct fs, .agg cs => (fs[f]?).bind fun p => (T p.2).bind fun fi => (xLoadD fi (cs.drop p.1)).map fun d => (d, S, nx, [], [])
  | _, _ => none
noncomputable def xIndexAddr (t : Nat) (x ix : D) (S : Store) (nx : Nat) : Option XR := (T t).bind fun ti => (intD ix).bind fun n => whn (decide (0 ≤ n)) (match ti.k with
  | .slice e => (T e).bind fun fe => match x with
    | .sl es sz => whn (Nat.beq fe.size sz) ((es[n.toNat]?).map fun c => (.ep c, S, nx, [], []))
    | .own l m => whn (decide (n < m)) (some (.oel l fe.size n.toNat 0, S, nx, [], []))
    | _ => none
  | .array m e => (T e).bind fun fe => whn (decide (n < m)) ((addD x (n.toNat * fe.size)).map fun d => (d, S, nx, [], []))
  | _ => none)
noncomputable def xIndex (t : Nat) (x ix : D) (S : Store) (nx : Nat) : Option XR := (T t).bind fun ti => (intD ix).bind fun n => whn (decide (0 ≤ n)) (match ti.k, x with
  | .str, .s l => (l[n.toNat]?).map fun b => (.v (.int .u8 b.toNat), S, nx, [], [])
  | .array m e, .agg cs => (T e).bind fun fe => whn (decide (n < m)) ((xLoadD fe (cs.drop (n.toNat * fe.size))).map fun d => (d, S, nx, [], []))
  | _, _ => none)
noncomputable def xStore (t : Nat) (x v : D) (S : Store) (nx : Nat) : Option XR := (T t).bind fun ti => (cellsD v).bind fun new => whn (Nat.beq new.length ti.size && new.all oneD) (match x with
  | .ref l off => match lookB S l with
    | some (.box cs) => whn (Nat.ble (off + new.length) cs.length) (some (.any, putB S l (.box (overD cs off new)), nx, [l], [l]))
    | _ => none
  | .oel l size i j => match lookB S l with
    | some (.row ty sz es) => whn (Nat.beq size sz) ((es[i]?).bind fun e => whn (Nat.ble (j + new.length) e.length) (some (.any, putB S l (.row ty sz (es.set i (overD e j new))), nx, [l], [l])))
    | _ => none
  | _ => none)
end

section
variable {Y : Sy} {E : Env Y} {S S' : Store} {nx nx' : Nat} {ls ws : List Nat} {d : D} {K : KT}
theorem xLoadD_ok {ti : TI} {cs : List D} {K : D → Prop} (h : xLoadD ti cs = some d) (hK : K d) : loadD ti cs K := by
  unfold xLoadD at h
  try simp only [lookB_eq, getB_eq, evB_eq, putB_eq, delB_eq, putAllB_eq, delAllB_eq, idB_eq, newB_eq, pickB_eq, subSB_eq, renBB_eq] at h
  unfold loadD
  cases ha : ti.agg with
  | true =>
    simp only [ha, whn_some, Nat.ble_eq, Option.some.injEq] at h
    obtain ⟨h1, rfl⟩ := h
    exact ⟨h1, hK⟩
  | false =>
    simp only [ha] at h
    exact ⟨d, h, hK⟩
theorem xLoad_ok {t : Nat} {x : D} (h : xLoad Y.T t x S nx = some (d, S', nx', ls, ws)) (hK : K d S' nx' ls ws) : vLoad E t x S nx K := by
  simp only [lookB_eq, getB_eq, evB_eq, putB_eq, delB_eq, putAllB_eq, delAllB_eq, idB_eq, newB_eq, pickB_eq, subSB_eq, renBB_eq, xLoad, Option.bind_eq_some_iff] at h
  obtain ⟨ti, hti, h⟩ := h
  refine ⟨ti, hti, ?_⟩
  cases x <;> simp only [Option.map_eq_some_iff, Prod.mk.injEq, reduceCtorEq] at h ⊢
  case ep cs => obtain ⟨d', h1, rfl, rfl, rfl, rfl, rfl⟩ := h; exact xLoadD_ok h1 hK
  case ref l off =>
    split at h
    · rename_i cs hl
      simp only [Option.map_eq_some_iff, Prod.mk.injEq] at h
      obtain ⟨d', h1, rfl, rfl, rfl, rfl, rfl⟩ := h
      exact ⟨_, hl, xLoadD_ok h1 hK⟩
    · cases h
  case oel l size i j =>
    split at h
    · rename_i ty sz es hl
      simp only [whn_some, Option.bind_eq_some_iff, Option.map_eq_some_iff, Prod.mk.injEq] at h
      obtain ⟨hs, e, he, d', h1, rfl, rfl, rfl, rfl, rfl⟩ := h
      exact ⟨_, hl, Nat.eq_of_beq_eq_true hs, e, he, xLoadD_ok h1 hK⟩
    · cases h
theorem xMove_ok {x : D} (h : xMove x S nx = some (d, S', nx', ls, ws)) (hK : K d S' nx' ls ws) : vMove x S nx K := by
  simp only [lookB_eq, getB_eq, evB_eq, putB_eq, delB_eq, putAllB_eq, delAllB_eq, idB_eq, newB_eq, pickB_eq, subSB_eq, renBB_eq, xMove, Option.some.injEq, Prod.mk.injEq] at h
  obtain ⟨rfl, rfl, rfl, rfl, rfl⟩ := h
  exact hK
theorem xPick_ok {c x y : D} (h : xPick c x y S nx = some (d, S', nx', ls, ws)) (hK : K d S' nx' ls ws) : vPick c x y S nx K := by
  unfold xPick at h
  try simp only [lookB_eq, getB_eq, evB_eq, putB_eq, delB_eq, putAllB_eq, delAllB_eq, idB_eq, newB_eq, pickB_eq, subSB_eq, renBB_eq] at h
  split at h
  · simp only [Option.some.injEq, Prod.mk.injEq] at h
    obtain ⟨rfl, rfl, rfl, rfl, rfl⟩ := h
    exact ⟨fun _ => hK, (fun h => by cases h)⟩
  · simp only [Option.some.injEq, Prod.mk.injEq] at h
    obtain ⟨rfl, rfl, rfl, rfl, rfl⟩ := h
    exact ⟨(fun h => by cases h), fun _ => hK⟩
  · cases h
theorem xNil_ok {x : D} (h : xNil x S nx = some (d, S', nx', ls, ws)) (hK : K d S' nx' ls ws) : vNil x S nx K := by
  simp only [lookB_eq, getB_eq, evB_eq, putB_eq, delB_eq, putAllB_eq, delAllB_eq, idB_eq, newB_eq, pickB_eq, subSB_eq, renBB_eq, xNil, whn_some, Option.some.injEq, Prod.mk.injEq] at h
  obtain ⟨h1, rfl, rfl, rfl, rfl, rfl⟩ := h
  exact ⟨h1, hK⟩
theorem xExtract_ok {x : D} {i : Nat} (h : xExtract x i S nx = some (d, S', nx', ls, ws)) (hK : K d S' nx' ls ws) : vExtract x i S nx K := by
  cases x <;> simp only [lookB_eq, getB_eq, evB_eq, putB_eq, delB_eq, putAllB_eq, delAllB_eq, idB_eq, newB_eq, pickB_eq, subSB_eq, renBB_eq, xExtract, Option.map_eq_some_iff, Prod.mk.injEq, reduceCtorEq] at h
  obtain ⟨d', h1, rfl, rfl, rfl, rfl, rfl⟩ := h
  exact ⟨_, h1, hK⟩
theorem xNew_ok {cs : List D} (h : xNew cs S nx = some (d, S', nx', ls, ws)) (hK : K d S' nx' ls ws) : vNew false cs S nx K := by
  simp only [lookB_eq, getB_eq, evB_eq, putB_eq, delB_eq, putAllB_eq, delAllB_eq, idB_eq, newB_eq, pickB_eq, subSB_eq, renBB_eq, xNew, Option.some.injEq, Prod.mk.injEq] at h
  obtain ⟨rfl, rfl, rfl, rfl, rfl⟩ := h
  exact hK
theorem xBox_ok {x : D} (h : xBox x S nx = some (d, S', nx', ls, ws)) (hK : K d S' nx' ls ws) : vBox false x S nx K := by
  simp only [lookB_eq, getB_eq, evB_eq, putB_eq, delB_eq, putAllB_eq, delAllB_eq, idB_eq, newB_eq, pickB_eq, subSB_eq, renBB_eq, xBox, Option.bind_eq_some_iff] at h
  obtain ⟨cs, h1, h⟩ := h
  exact ⟨cs, h1, xNew_ok h hK⟩
theorem xAlloc_ok {t : Nat} (h : xAlloc Y.T t S nx = some (d, S', nx', ls, ws)) (hK : K d S' nx' ls ws) : vAlloc E false t S nx K := by
  simp only [lookB_eq, getB_eq, evB_eq, putB_eq, delB_eq, putAllB_eq, delAllB_eq, idB_eq, newB_eq, pickB_eq, subSB_eq, renBB_eq, xAlloc, Option.bind_eq_some_iff] at h
  obtain ⟨ti, h1, h⟩ := h
  exact ⟨ti, h1, xNew_ok h hK⟩
theorem xFieldAddr_ok {t f : Nat} {x : D} (h : xFieldAddr Y.T t x f S nx = some (d, S', nx', ls, ws)) (hK : K d S' nx' ls ws) : vFieldAddr E t x f S nx K := by
  simp only [lookB_eq, getB_eq, evB_eq, putB_eq, delB_eq, putAllB_eq, delAllB_eq, idB_eq, newB_eq, pickB_eq, subSB_eq, renBB_eq, xFieldAddr, Option.bind_eq_some_iff] at h
  obtain ⟨ti, h1, h⟩ := h
  refine ⟨ti, h1, ?_⟩
  cases hk : ti.k <;> simp only [hk, reduceCtorEq] at h ⊢
  simp only [Option.bind_eq_some_iff, whn_some, Option.map_eq_some_iff, Prod.mk.injEq] at h
  obtain ⟨p, hp, fi, hfi, hs, d', hd, rfl, rfl, rfl, rfl, rfl⟩ := h
  exact ⟨p, hp, fi, hfi, by intro e; simp [e] at hs, _, hd, hK⟩
theorem xField_ok {t f : Nat} {x : D} (h : xField Y.T t x f S nx = some (d, S', nx', ls, ws)) (hK : K d S' nx' ls ws) : vField E t x f S nx K := by
  simp only [lookB_eq, getB_eq, evB_eq, putB_eq, delB_eq, putAllB_eq, delAllB_eq, idB_eq, newB_eq, pickB_eq, subSB_eq, renBB_eq, xField, Option.bind_eq_some_iff] at h
  obtain ⟨ti, h1, h⟩ := h
  refine ⟨ti, h1, ?_⟩
  split at h
  · rename_i fs cs hk
    simp only [hk]
    simp only [Option.bind_eq_some_iff, Option.map_eq_some_iff, Prod.mk.injEq] at h
    obtain ⟨p, hp, fi, hfi, d', hd, rfl, rfl, rfl, rfl, rfl⟩ := h
    exact ⟨p, hp, fi, hfi, xLoadD_ok hd hK⟩
  · cases h
theorem xIndexAddr_ok {t : Nat} {x ix : D} (h : xIndexAddr Y.T t x ix S nx = some (d, S', nx', ls, ws)) (hK : K d S' nx' ls ws) : vIndexAddr E t x ix S nx K := by
  simp only [lookB_eq, getB_eq, evB_eq, putB_eq, delB_eq, putAllB_eq, delAllB_eq, idB_eq, newB_eq, pickB_eq, subSB_eq, renBB_eq, xIndexAddr, Option.bind_eq_some_iff, whn_some, decide_eq_true_eq] at h
  obtain ⟨ti, h1, n, hn, h0, h⟩ := h
  refine ⟨ti, h1, n, hn, h0, ?_⟩
  cases hk : ti.k <;> simp only [hk, reduceCtorEq, Option.bind_eq_some_iff] at h
  case slice e =>
    obtain ⟨fe, hfe, h⟩ := h
    cases x <;> simp only [whn_some, Option.map_eq_some_iff, Prod.mk.injEq, Option.some.injEq, decide_eq_true_eq, reduceCtorEq] at h ⊢
    case sl es sz => obtain ⟨hs, c, hc, rfl, rfl, rfl, rfl, rfl⟩ := h; exact ⟨fe, hfe, Nat.eq_of_beq_eq_true hs, c, hc, hK⟩
    case own l m => obtain ⟨hs, rfl, rfl, rfl, rfl, rfl⟩ := h; exact ⟨fe, hfe, hs, hK⟩
  case array m e =>
    simp only [whn_some, Option.map_eq_some_iff, Prod.mk.injEq, decide_eq_true_eq] at h
    obtain ⟨fe, hfe, hm, d', hd, rfl, rfl, rfl, rfl, rfl⟩ := h
    exact ⟨fe, hfe, hm, _, hd, hK⟩
theorem xIndex_ok {t : Nat} {x ix : D} (h : xIndex Y.T t x ix S nx = some (d, S', nx', ls, ws)) (hK : K d S' nx' ls ws) : vIndex E t x ix S nx K := by
  simp only [lookB_eq, getB_eq, evB_eq, putB_eq, delB_eq, putAllB_eq, delAllB_eq, idB_eq, newB_eq, pickB_eq, subSB_eq, renBB_eq, xIndex, Option.bind_eq_some_iff, whn_some, decide_eq_true_eq] at h
  obtain ⟨ti, h1, n, hn, h0, h⟩ := h
  refine ⟨ti, h1, n, hn, h0, ?_⟩
  split at h
  · rename_i l hk
    simp only [hk]
    simp only [Option.map_eq_some_iff, Prod.mk.injEq] at h
    obtain ⟨b, hb, rfl, rfl, rfl, rfl, rfl⟩ := h
    exact ⟨b, hb, hK⟩
  · rename_i m e cs hk
    simp only [hk]
    simp only [Option.bind_eq_some_iff, whn_some, Option.map_eq_some_iff, Prod.mk.injEq, decide_eq_true_eq] at h
    obtain ⟨fe, hfe, hm, d', hd, rfl, rfl, rfl, rfl, rfl⟩ := h
    exact ⟨fe, hfe, hm, xLoadD_ok hd hK⟩
  · cases h
theorem xStore_ok {t : Nat} {x v : D} (h : xStore Y.T t x v S nx = some (d, S', nx', ls, ws)) (hK : K d S' nx' ls ws) : vStore E t x v S nx K := by
  simp only [lookB_eq, getB_eq, evB_eq, putB_eq, delB_eq, putAllB_eq, delAllB_eq, idB_eq, newB_eq, pickB_eq, subSB_eq, renBB_eq, xStore, Option.bind_eq_some_iff, whn_some, Bool.and_eq_true] at h
  obtain ⟨ti, h1, new, hn, ⟨hs, hall⟩, h⟩ := h
  refine ⟨ti, h1, new, hn, Nat.eq_of_beq_eq_true hs, hall, ?_⟩
  cases x <;> simp only [reduceCtorEq] at h ⊢
  case ref l off =>
    split at h
    · rename_i cs hl
      simp only [whn_some, Nat.ble_eq, Option.some.injEq, Prod.mk.injEq] at h
      obtain ⟨h2, rfl, rfl, rfl, rfl, rfl⟩ := h
      exact ⟨_, hl, h2, hK⟩
    · cases h
  case oel l size i j =>
    split at h
    · rename_i ty sz es hl
      simp only [whn_some, Nat.ble_eq, Option.some.injEq, Prod.mk.injEq, Option.bind_eq_some_iff] at h
      obtain ⟨h2, e, he, h3, rfl, rfl, rfl, rfl, rfl⟩ := h
      exact ⟨_, hl, Nat.eq_of_beq_eq_true h2, e, he, h3, hK⟩
    · cases h
end
end Go.Abs
