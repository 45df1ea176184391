/- An abstract walk over the model: what a function does, as a computation on described values; proved once for all functions. -/
import Derived.Test.YtjgooecohepkoaaGreatDoorEAH
import Derived.RangeFuncRecord
set_option linter.unusedVariables false
set_option linter.unusedSimpArgs false
namespace Go.Abs
open Go

/-! ### The end of a function in which ranges over functions ran -/
section
variable {w w' : World}
/-- All cells and maps stay. -/
structure Stay (w w' : World) : Prop where
  c : ∀ ad u, w.cell? ad = some u → w'.cell? ad = some u
  m : ∀ (b : Nat) (o : Obj), w.heap[b]? = some o → (∀ x, o ≠ .deferred x) → w'.heap[b]? = some o
theorem cellsAt.stay (h : Stay w w') {ad : Addr} {vs : List Value} (hc : cellsAt w ad vs) : cellsAt w' ad vs := fun j u hu => h.c _ _ (hc j u hu)
mutual
theorem Rep.stay {g : G} (h : Stay w w') : ∀ {x : Value} {d : D}, Rep w g x d → Rep w' g x d
  | _, .any, _ => by simp [Rep]
  | _, .v _, hx => by simpa [Rep] using hx
  | _, .s _, hx => by simpa [Rep] using hx
  | _, .sl _ _, hx => by
    simp only [Rep] at hx ⊢
    obtain ⟨a, c, rfl, h1, h2, h3, h4⟩ := hx
    refine ⟨a, c, rfl, h1, h2, h3, fun hn => ?_⟩
    obtain ⟨ad, rfl, hz, hc⟩ := h4 hn
    exact ⟨ad, rfl, hz, RepE.stay h hc⟩
  | _, .ep _, hx => by
    simp only [Rep] at hx ⊢
    obtain ⟨ad, vs, rfl, hz, hc, h5⟩ := hx
    exact ⟨ad, vs, rfl, hz, hc.stay h, RepL.stay h h5⟩
  | _, .ref _ _, hx => by simpa [Rep] using hx
  | _, .oel _ _ _ _, hx => by simpa [Rep] using hx
  | _, .mp _, hx => by simpa [Rep] using hx
  | _, .it _, hx => by simpa [Rep] using hx
  | _, .yl _, hx => by simpa [Rep] using hx
  | _, .own _ _, hx => by simpa [Rep] using hx
  | _, .fmp _ _, hx => by
    simp only [Rep] at hx ⊢
    obtain ⟨b, arr, c, rfl, hz, h1, h2, h3, h4⟩ := hx
    exact ⟨b, arr, c, rfl, hz, h.m _ _ h1 (by simp), h2, RepL.stay h h3, h4⟩
  | _, .fn _ _ _, hx => by
    simp only [Rep] at hx ⊢
    obtain ⟨v1, v2, rfl, h1, h2⟩ := hx
    exact ⟨v1, v2, rfl, RepL.stay h h1, RepL.stay h h2⟩
  | _, .agg _, hx => by
    simp only [Rep] at hx ⊢
    obtain ⟨v1, rfl, h1⟩ := hx
    exact ⟨v1, rfl, RepL.stay h h1⟩
  | _, .tup _, hx => by
    simp only [Rep] at hx ⊢
    obtain ⟨v1, rfl, h1⟩ := hx
    exact ⟨v1, rfl, RepL.stay h h1⟩
theorem RepL.stay {g : G} (h : Stay w w') : ∀ {xs : List Value} {ds : List D}, RepL w g xs ds → RepL w' g xs ds
  | [], [], _ => by simp [RepL]
  | [], _ :: _, hx => by simp [RepL] at hx
  | _ :: _, [], hx => by simp [RepL] at hx
  | x :: xs, d :: ds, hx => by
    simp only [RepL] at hx ⊢
    exact ⟨Rep.stay h hx.1, RepL.stay h hx.2⟩
theorem RepE.stay {g : G} (h : Stay w w') {ad : Addr} {size : Nat} : ∀ {k : Nat} {es : List (List D)}, RepE w g ad size k es → RepE w' g ad size k es
  | _, [], _ => by simp [RepE]
  | k, e :: r, hx => by
    simp only [RepE] at hx ⊢
    obtain ⟨⟨vs, hc, hl⟩, hr⟩ := hx
    exact ⟨⟨vs, hc.stay h, RepL.stay h hl⟩, RepE.stay h hr⟩
end
theorem stay_put {r : Nat} {x : Option (List Deferred)} (o : Obj) (h : w.heap[r]? = some (.deferred x)) : Stay w (w.putObj r o) := by
  refine ⟨fun ad u hu => ?_, fun b o hb hne => ?_⟩
  · by_cases e : ad.block = r
    · unfold World.cell? at hu
      rw [e, h] at hu
      simp at hu
    · rw [← hu]
      exact World.cell?_of_block (World.putObj_heap_other e)
  · by_cases e : b = r
    · subst e; rw [h] at hb; cases hb; exact absurd rfl (hne _)
    · rw [World.putObj_heap_other e]; exact hb
theorem ObjRep.put {g : G} {p : Option Nat × Nat} {r : Nat} {x : Option (List Deferred)} (o : Obj) (h : w.heap[r]? = some (.deferred x)) : ∀ {ob : AO}, ObjRep w g p ob → ObjRep (w.putObj r o) g p ob := by
  have hs := stay_put o h
  have hk : ∀ (b : Nat) (ob : Obj), w.heap[b]? = some ob → (∀ y, ob ≠ .deferred y) → (w.putObj r o).heap[b]? = some ob := by
    intro b ob hb hne
    by_cases e : b = r
    · subst e; rw [h] at hb; cases hb; exact absurd rfl (hne x)
    · rw [World.putObj_heap_other e]; exact hb
  intro ob hx
  cases ob with
  | box cs => obtain ⟨b, arr, t, h1, h2, h3⟩ := hx; exact ⟨b, arr, t, h1, hk _ _ h2 (by simp), h3.stay hs⟩
  | row e size es =>
    rcases hx with hx | ⟨b, arr, h1, h2, h3, h4, h5, h6, h7⟩
    · exact .inl hx
    · exact .inr ⟨b, arr, h1, hk _ _ h2 (by simp), h3, h4, h5, h6, h7.stay hs⟩
  | mp es => obtain ⟨b, arr, c, h1, h2, h3, h4, h5⟩ := hx; exact ⟨b, arr, c, h1, hk _ _ h2 (by simp), h3, h4.stay hs, h5⟩
  | si s pos => obtain ⟨b, h1, h2⟩ := hx; exact ⟨b, h1, hk _ _ h2 (by simp)⟩
  | lp s pd σ n ps as bd => obtain ⟨b, l, h1, h2, h3, h4, h5, h6, h7, h8⟩ := hx; exact ⟨b, l, h1, hk _ _ h2 (by simp), h3, h4, h5, h6, h7, h8.mono fun _ _ h => h.stay hs⟩
end

section
variable {Y : Sy} {E : Env Y} {st : St}
/-- A mark is come to. -/
theorem SimA.take {a : Act} {w : World} {g : G} {d : Deferred} {rest : List Deferred} (hs : SimA E st a w g) (hd : a.defers = d :: rest) :
    ∃ r, d = mark r ∧ w.heap[r]? = some (.deferred (some [])) ∧ SimA E st { a with defers := rest } (w.putObj r (.deferred none)) g := by
  have hdf := hs.df
  rw [hd] at hdf
  obtain ⟨r, rfl, h1, h2, h3⟩ := hdf.2 d (by simp)
  have hst := stay_put (.deferred none) h3
  refine ⟨r, rfl, h3, ⟨⟨hs.rc.tr.os, hs.rc.tr.tape, hs.rc.tr.output, ?_, fun b hb hn => ?_, hs.rc.tr.zmono, hs.rc.tr.znew, hs.rc.tr.fmono, hs.rc.tr.fnew⟩, ⟨fun b hb => ?_, fun l b c hl => ?_⟩⟩, fun t => (hs.tm t).stay hst, ⟨fun l o ho => ?_, hs.ss.apart⟩, hs.sz, ⟨?_, fun d' hd' => ?_⟩, hs.nm⟩
  · rw [World.putObj_size]; exact hs.rc.tr.size
  · rw [World.putObj_heap_other (by omega)]; exact hs.rc.tr.keep b hb hn
  · rw [World.putObj_size]; exact hs.rc.wf.zlt b hb
  · rw [World.putObj_size]; exact hs.rc.wf.flt l b c hl
  · obtain ⟨p, hp, hob, hn⟩ := hs.ss.obj l o ho
    exact ⟨p, hp, hob.put _ h3, hn⟩
  · exact (List.nodup_cons.1 hdf.1).2
  · obtain ⟨r', rfl, q1, q2, q3⟩ := hdf.2 d' (List.mem_cons_of_mem _ hd')
    refine ⟨r', rfl, q1, q2, ?_⟩
    rw [World.putObj_heap_other]
    · exact q3
    · rintro rfl
      exact (List.nodup_cons.1 hdf.1).1 hd'

theorem leavesM {fn : Func} {R : Ending → World → Prop} {g : G} : ∀ (ds : List Deferred) {a : Act} {w : World}, a.defers = ds → SimA E st a w g →
    (∀ a' w', SimA E st a' w' g → a'.tmps = a.tmps → ∃ v, (results fn a'.tmps).run E.P w' = .ok v w' ∧ R (.returned v) w') → LeavesInM E.F 0 E.P fn a.tmps R ds .returning w
  | [], a, w, hd, hs, h => h a w hs rfl
  | d :: rest, a, w, hd, hs, h => by
    obtain ⟨r, rfl, h1, h2⟩ := hs.take hd
    refine ⟨by simp, .inl ⟨r, _, rfl, run_takeDeferred h1, ?_⟩⟩
    exact leavesM rest (a := { a with defers := rest }) rfl h2 h
end
end Go.Abs
namespace Go.Abs
open Go

/-! ### Knowing less -/
def weakT (σ : List (Nat × D)) : List (Nat × D) → Prop
  | [] => True
  | (t, d) :: r => getT σ t = d ∧ weakT σ r
def weakS (S : Store) : Store → Prop
  | [] => True
  | (l, o) :: r => look S l = some o ∧ weakS S r
theorem weakT_get {σ : List (Nat × D)} : ∀ {σ' : List (Nat × D)}, weakT σ σ' → ∀ t, getT σ' t = .any ∨ getT σ' t = getT σ t
  | [], _, t => .inl rfl
  | (u, d) :: r, h, t => by
    simp only [getT]
    split
    · rename_i e; subst e; exact .inr h.1.symm
    · exact weakT_get h.2 t
theorem weakS_look {S : Store} : ∀ {S' : Store}, weakS S S' → ∀ {l o}, look S' l = some o → look S l = some o
  | [], _, l, o, h => by simp [look] at h
  | (k, ob) :: r, hw, l, o, h => by
    simp only [look] at h
    split at h
    · rename_i e; subst e; cases h; exact hw.1
    · exact weakS_look hw.2 h

section
variable {Y : Sy} {E : Env Y} {st st' : St}

theorem Into.weak (hσ : weakT st.σ st'.σ) (hS : weakS st.S st'.S) (hnx : st.nx ≤ st'.nx) (hds : st'.ds = st.ds) : Into E st st' := fun a w g hs =>
  ⟨g, hs.rc, fun t => by
    rcases weakT_get hσ t with h | h
    · rw [h]; simp [Rep]
    · rw [h]; exact hs.tm t, hs.ss.sub fun l o h => weakS_look hS h, hs.sz, hs.df, fun l hl => Nat.lt_of_lt_of_le (hs.nm l hl) hnx⟩

/-! ### Other names -/
def renB (k : Nat) (S : Store) (nx' : Nat) (m : List (Nat × Nat)) : Bool :=
  injB m && Nat.ble k nx' && m.all fun x => (Nat.beq x.1 x.2 || Nat.ble k x.1) && (look S x.2).isSome && Nat.blt x.1 nx'

def relab {Y : Sy} (E : Env Y) (m : List (Nat × Nat)) (g : G) : G := ⟨g.Z, fun l => match E.g0.φ l with | some p => some p | none => (oldOf m l).bind g.φ⟩

theorem ren_ok {k : Nat} (h0 : ∀ l, E.g0.φ l ≠ none → l < k) {S : Store} {nx' : Nat} {m : List (Nat × Nat)} (hm : renB k S nx' m = true) {w : World} {g : G} (hr : Reach E w g) (hs : SimS E w g (look S)) :
    Reach E w (relab E m g) ∧ (∀ l l' p, newOf m l = some l' → g.φ l = some p → (relab E m g).φ l' = some p) ∧ SimS E w (relab E m g) (look (subS m S m)) ∧
      (∀ l, (relab E m g).φ l ≠ none → l < nx' ∧ (l < k ∧ E.g0.φ l ≠ none ∨ oldOf m l ≠ none)) := by
  simp only [renB, Bool.and_eq_true, List.all_eq_true, Bool.or_eq_true, Nat.ble_eq, Nat.blt_eq] at hm
  obtain ⟨⟨hi, hk⟩, hm⟩ := hm
  have hθ : ∀ l l' p, newOf m l = some l' → g.φ l = some p → (relab E m g).φ l' = some p := by
    intro l l' p h1 h2
    have hmem := newOf_mem h1
    simp only [relab]
    cases hg : E.g0.φ l' with
    | some q =>
      obtain ⟨⟨h3, _⟩, _⟩ := hm _ hmem
      rcases h3 with h3 | h3
      · have : l' = l := Nat.eq_of_beq_eq_true h3
        subst this
        have := hr.tr.fmono _ _ hg
        rw [h2] at this
        exact this.symm
      · have := h0 l' (by rw [hg]; simp)
        simp only at h3; omega
    | none => simp only [oldOf_of hi hmem, Option.bind_some, h2]
  have hback : ∀ l p, (relab E m g).φ l = some p → E.g0.φ l = some p ∨ E.g0.φ l = none ∧ ∃ o, (l, o) ∈ m ∧ g.φ o = some p := by
    intro l p h
    simp only [relab] at h
    cases hg : E.g0.φ l with
    | some q => rw [hg] at h; exact .inl h
    | none =>
      rw [hg] at h
      simp only at h
      cases ho : oldOf m l with
      | none => rw [ho] at h; simp at h
      | some o => rw [ho] at h; exact .inr ⟨rfl, o, oldOf_mem ho, by simpa using h⟩
  refine ⟨⟨⟨hr.tr.os, hr.tr.tape, hr.tr.output, hr.tr.size, hr.tr.keep, hr.tr.zmono, hr.tr.znew, fun l p h => by simp [relab, h], fun l b c h1 h2 => ?_⟩, ⟨hr.wf.zlt, fun l b c h => ?_⟩⟩, hθ, ⟨fun l ob h => ?_, fun l l' b x x' h1 h2 hne hp hp' => ?_⟩, fun l h => ?_⟩
  · rcases hback l _ h1 with h | ⟨_, o, hmem, h⟩
    · rw [h2] at h; cases h
    · have hso := (hm _ hmem).1.2
      cases hl : look S o with
      | none => simp only [hl] at hso; cases hso
      | some ob =>
        obtain ⟨p, hp, _, hn⟩ := hs.obj o ob hl
        rw [h] at hp
        cases hp
        rcases Nat.lt_or_ge b E.w0.heap.size with h5 | h5
        · exact .inr ((hn b rfl).2 h5)
        · exact .inl h5
  · rcases hback l _ h with h | ⟨_, o, hmem, h⟩
    · exact hr.wf.flt l b c (hr.tr.fmono _ _ h)
    · exact hr.wf.flt o b c h
  · obtain ⟨o, ob', hmem, hl, rfl⟩ := look_subS h
    obtain ⟨p, hp, hob, hn⟩ := hs.obj o ob' hl
    exact ⟨p, hθ o l p (newOf_of hi hmem) hp, ObjRep.sub (g := g) (g' := relab E m g) (fun _ h => h) hθ hob, hn⟩
  · cases e1 : look (subS m S m) l with
    | none => exact absurd e1 h1
    | some ob =>
      cases e2 : look (subS m S m) l' with
      | none => exact absurd e2 h2
      | some ob2 =>
        obtain ⟨o, ob', hmem, hl, _⟩ := look_subS e1
        obtain ⟨o2, ob2', hmem2, hl2, _⟩ := look_subS e2
        obtain ⟨p, hp1, _⟩ := hs.obj o ob' hl
        obtain ⟨p2, hp2, _⟩ := hs.obj o2 ob2' hl2
        have e3 := hθ o l p (newOf_of hi hmem) hp1
        have e4 := hθ o2 l' p2 (newOf_of hi hmem2) hp2
        rw [hp] at e3
        rw [hp'] at e4
        cases e3
        cases e4
        refine hs.apart o o2 b x x' (by rw [hl]; simp) (by rw [hl2]; simp) ?_ hp1 hp2
        rintro rfl
        have := newOf_of hi hmem
        rw [newOf_of hi hmem2] at this
        cases this
        exact hne rfl
  · cases hg : E.g0.φ l with
    | some q =>
      have := h0 l (by rw [hg]; simp)
      exact ⟨by omega, .inl ⟨this, by simp⟩⟩
    | none =>
      have hc : (relab E m g).φ l = (oldOf m l).bind g.φ := by simp [relab, hg]
      rw [hc] at h
      cases ho : oldOf m l with
      | none => rw [ho] at h; simp at h
      | some o => exact ⟨(hm _ (oldOf_mem ho)).2, .inr (by simp)⟩

theorem Into.ren {k : Nat} (h0 : ∀ l, E.g0.φ l ≠ none → l < k) (m : List (Nat × Nat)) (nx' : Nat) (hm : renB k st.S nx' m = true) :
    Into E st ⟨mapT (subD (newOf m)) st.σ, subS m st.S m, nx', st.ds⟩ := fun a w g hs => by
  obtain ⟨h1, h2, h3, h4⟩ := ren_ok h0 hm hs.rc hs.ss
  refine ⟨relab E m g, h1, fun t => ?_, h3, hs.sz, hs.df, fun l hl => (h4 l hl).1⟩
  rcases getT_mapT (f := subD (newOf m)) (σ := st.σ) (t := t) with h | h
  · simp only [h]; exact Rep.sub (g := g) (g' := relab E m g) (fun _ h => h) h2 (hs.tm t)
  · simp only [h]; simp [Rep]

/-! ### Frozen from now on -/
def pickS (S : Store) : List Nat → Store
  | [] => []
  | l :: r => match look S l with | some o => (l, o) :: pickS S r | none => pickS S r
theorem look_pickS {S : Store} {l : Nat} : ∀ {L : List Nat}, look (pickS S L) l = if l ∈ L then look S l else none
  | [] => by simp [pickS, look]
  | k :: r => by
    have ih := look_pickS (S := S) (l := l) (L := r)
    simp only [pickS, List.mem_cons]
    cases hk : look S k with
    | none =>
      simp only [ih]
      by_cases h : l = k
      · subst h; simp [hk]
      · simp [h]
    | some o =>
      simp only [look, ih]
      by_cases h : k = l
      · subst h; simp [hk]
      · simp [h, Ne.symm h]
def lendO (S : Store) (n : Nat) : AO → AO
  | .box cs => .box (cs.map (lend S n))
  | .row e size es => .row e size (es.map fun x => x.map (lend S n))
  | .mp es => .mp (es.map fun x => (x.1, lend S n x.2))
  | .lp s pd σ m ps a b => .lp s pd (mapT (lend S n) σ) m ps a b
  | o => o
def mapS (f : AO → AO) (S : Store) : Store := S.map fun x => (x.1, f x.2)
theorem look_mapS {f : AO → AO} {S : Store} {l : Nat} : look (mapS f S) l = (look S l).map f := by
  induction S with
  | nil => rfl
  | cons x r ih =>
    obtain ⟨k, o⟩ := x
    simp only [mapS, List.map_cons, look] at ih ⊢
    split
    · rfl
    · exact ih
theorem repE_mapD {w : World} {g g' : G} {f : D → D} (hf : ∀ {x d}, Rep w g x d → Rep w g' x (f d)) {ad : Addr} {size : Nat} : ∀ {k : Nat} {es : List (List D)}, RepE w g ad size k es → RepE w g' ad size k (es.map fun x => x.map f)
  | _, [], _ => by simp [RepE]
  | k, e :: r, h => by
    simp only [RepE, List.map_cons] at h ⊢
    obtain ⟨⟨vs, hc, hl⟩, hr⟩ := h
    exact ⟨⟨vs, hc, repL_mapD (fun h => hf h) hl⟩, repE_mapD hf hr⟩

theorem Into.freeze (L : List Nat) (n : Nat) : Into E st ⟨mapT (lend (pickS st.S L) n) st.σ, mapS (lendO (pickS st.S L) n) (delAll st.S L), st.nx, st.ds⟩ := fun a w g hs => by
  have hsub : SimS E w g (look (pickS st.S L)) := hs.ss.sub fun l o h => by
    rw [look_pickS] at h
    split at h
    · exact h
    · cases h
  have hlend := fun {x d} => lend_ok hsub n (x := x) (d := d)
  refine ⟨gz g (pickS st.S L), ⟨⟨hs.rc.tr.os, hs.rc.tr.tape, hs.rc.tr.output, hs.rc.tr.size, hs.rc.tr.keep, fun b h => .inl (hs.rc.tr.zmono b h), fun b h h1 h2 => ?_, hs.rc.tr.fmono, hs.rc.tr.fnew⟩, wf_gz hs.rc.wf⟩, fun t => ?_, ⟨fun l o h => ?_, fun l l' b x x' h1 h2 => ?_⟩, hs.sz, hs.df.up (fun _ h => .inl h), hs.nm⟩
  · rcases h with h | h
    · exact hs.rc.tr.znew b h h1 h2
    · exact absurd (hsub.own_own0 b h1 h) h2
  · rcases getT_mapT (f := lend (pickS st.S L) n) (σ := st.σ) (t := t) with h | h
    · simp only [h]; exact hlend (hs.tm t)
    · simp only [h]; simp [Rep]
  · rw [look_mapS] at h
    simp only [Option.map_eq_some_iff] at h
    obtain ⟨o0, h, rfl⟩ := h
    rw [look_delAll] at h
    split at h
    · cases h
    · rename_i hL
      obtain ⟨p, hp, ho, hn⟩ := hs.ss.obj l o0 h
      refine ⟨p, hp, ?_, fun b hb => ⟨fun hz => ?_, (hn b hb).2⟩⟩
      · cases o0 with
        | box cs =>
          obtain ⟨b, arr, t, q1, q2, q3⟩ := ho
          exact ⟨b, arr, t, q1, q2, repL_mapD (fun h => hlend h) q3⟩
        | row e size es =>
          rcases ho with ⟨q1, rfl⟩ | ⟨b, arr, q1, q2, q3, q4, q5, q6, q7⟩
          · exact .inl ⟨q1, rfl⟩
          · refine .inr ⟨b, arr, q1, q2, by simpa using q3, q4, q5, ?_, repE_mapD (fun h => hlend h) q7⟩
            intro e' he'
            obtain ⟨e0, he0, rfl⟩ := List.mem_map.1 he'
            simpa using q6 e0 he0
        | mp es =>
          obtain ⟨b, arr, clock, q1, q2, q3, q4, q5⟩ := ho
          refine ⟨b, arr, clock, q1, q2, by simpa [Function.comp_def] using q3, ?_, q5⟩
          have := repL_mapD (f := lend (pickS st.S L) n) (g' := gz g (pickS st.S L)) (fun h => hlend h) q4
          simpa [Function.comp_def] using this
        | si s pos => exact ho
        | lp s pd σ m ps as bd => obtain ⟨b, r, q1, q2, q3, q4, q5, q6, q7, q8⟩ := ho; exact ⟨b, r, q1, q2, q3, q4, q5, q6, q7, q8.mapT fun _ _ h => hlend h⟩
      · rcases hz with hz | ⟨l', x, h1, h2⟩
        · exact (hn b hb).1 hz
        · obtain ⟨p1, p2⟩ := p
          simp only at hb
          subst hb
          have hL' : l' ∈ L := by
            rw [look_pickS] at h1
            split at h1
            · assumption
            · exact absurd rfl h1
          have hne : l ≠ l' := by rintro rfl; exact hL hL'
          refine hs.ss.apart l l' b p2 x (by rw [h]; simp) ?_ hne hp h2
          rw [look_pickS, if_pos hL'] at h1
          exact h1
  · refine hs.ss.apart l l' b x x' ?_ ?_
    · intro e
      rw [look_mapS, look_delAll, e] at h1
      simp at h1
    · intro e
      rw [look_mapS, look_delAll, e] at h2
      simp at h2

/-- A nil slice becomes a row of one's own without elements. -/
theorem Into.nilRow (t : Nat) (e : TypeId) (size : Nat) (ht : getT st.σ t = .v (.slice none 0 0)) : Into E st ⟨setT st.σ t (.own st.nx 0), (st.nx, .row e size []) :: st.S, st.nx + 1, st.ds⟩ := fun a w g hs => by
  have hφ : g.φ st.nx = none := by
    cases h : g.φ st.nx with
    | none => rfl
    | some p => have := hs.nm st.nx (by rw [h]; simp); omega
  have hup : ∀ l p, g.φ l = some p → (named g st.nx (none, 0)).φ l = some p := by
    intro l p h
    simp only [named]
    split
    · rename_i e; subst e; rw [hφ] at h; cases h
    · exact h
  have hupr : ∀ {x d}, Rep w g x d → Rep w (named g st.nx (none, 0)) x d := fun h => Rep.up (g := g) (g' := named g st.nx (none, 0)) (fun _ h => h) hup h
  have hmono : ∀ {o p}, ObjRep w g p o → ObjRep w (named g st.nx (none, 0)) p o := by
    intro o p ho
    cases o with
    | box cs => obtain ⟨b, arr, t, q1, q2, q3⟩ := ho; exact ⟨b, arr, t, q1, q2, RepL.up (g := g) (g' := named g st.nx (none, 0)) (fun _ h => h) hup q3⟩
    | row e size es =>
      rcases ho with q | ⟨b, arr, q1, q2, q3, q4, q5, q6, q7⟩
      · exact .inl q
      · exact .inr ⟨b, arr, q1, q2, q3, q4, q5, q6, RepE.up (g := g) (g' := named g st.nx (none, 0)) (fun _ h => h) hup q7⟩
    | mp es => obtain ⟨b, arr, clock, q1, q2, q3, q4, q5⟩ := ho; exact ⟨b, arr, clock, q1, q2, q3, RepL.up (g := g) (g' := named g st.nx (none, 0)) (fun _ h => h) hup q4, q5⟩
    | si s pos => exact ho
    | lp s pd σ m ps as bd => obtain ⟨b, r, q1, q2, q3, q4, q5, q6, q7, q8⟩ := ho; exact ⟨b, r, q1, q2, q3, q4, q5, q6, q7, q8.mono fun _ _ h => hupr h⟩
  refine ⟨named g st.nx (none, 0), ⟨⟨hs.rc.tr.os, hs.rc.tr.tape, hs.rc.tr.output, hs.rc.tr.size, hs.rc.tr.keep, hs.rc.tr.zmono, hs.rc.tr.znew, fun l p h => hup l p (hs.rc.tr.fmono l p h), fun l b c h1 h2 => ?_⟩, ⟨hs.rc.wf.zlt, fun l b c h => ?_⟩⟩, fun u => ?_, ⟨fun l o h => ?_, fun l l' b x x' h1 h2 hne hp hp' => ?_⟩, hs.sz, hs.df, fun l h => ?_⟩
  · simp only [named] at h1
    split at h1
    · cases h1
    · exact hs.rc.tr.fnew l b c h1 h2
  · simp only [named] at h
    split at h
    · cases h
    · exact hs.rc.wf.flt l b c h
  · simp only [getT_setT]
    split
    · rename_i e
      subst e
      have := hs.tm t
      rw [ht] at this
      simp only [Rep] at this ⊢
      exact .inr ⟨by simp [named], by simp, this⟩
    · exact hupr (hs.tm u)
  · simp only [look] at h
    split at h
    · rename_i e
      subst e
      cases h
      exact ⟨(none, 0), by simp [named], .inl ⟨rfl, rfl⟩, by simp⟩
    · obtain ⟨p, hp, ho, hn⟩ := hs.ss.obj l o h
      exact ⟨p, hup l p hp, hmono ho, hn⟩
  · simp only [named] at hp hp'
    split at hp
    · cases hp
    · split at hp'
      · cases hp'
      · rename_i e1 e2
        simp only [look, if_neg (Ne.symm e1)] at h1
        simp only [look, if_neg (Ne.symm e2)] at h2
        exact hs.ss.apart l l' b x x' h1 h2 hne hp hp'
  · simp only [named] at h
    show l < st.nx + 1
    split at h
    · omega
    · have := hs.nm l h; omega
end
end Go.Abs
namespace Go.Abs
open Go

/-! ### What a function hands back -/
def vRes {Y : Sy} (E : Env Y) (σ : List (Nat × D)) (S : Store) : List ResultVar → (List D → Prop) → Prop
  | [], K => K []
  | .tmp t :: r, K => vRes E σ S r fun ds => K (getT σ t :: ds)
  | .cell t ty :: r, K => onSome (E.T ty) fun ti => match getT σ t with
    | .ref l off => onSome (look S l) fun | .box cs => loadD ti (cs.drop off) (fun d => vRes E σ S r fun ds => K (d :: ds)) | _ => False
    | .ep cs => loadD ti cs fun d => vRes E σ S r fun ds => K (d :: ds)
    | _ => False
def packD : List D → D
  | [d] => d
  | ds => .tup ds

section
variable {Y : Sy} {E : Env Y} {st : St}
def resF (tmps : Array Value) : ResultVar → Sem Value
  | .tmp t => pure (tmps.getD t undef)
  | .cell a t => do loadVar t (← asAddr (tmps.getD a undef))
theorem vRes_ok {a : Act} {w : World} {g : G} (hs : SimA E st a w g) : ∀ {rs : List ResultVar} {K : List D → Prop}, vRes E st.σ st.S rs K →
    ∃ vs ds, (rs.mapM (resF a.tmps)).run E.P w = .ok vs w ∧ RepL w g vs ds ∧ K ds
  | [], K, h => ⟨[], [], by simp, by simp [RepL], h⟩
  | .tmp t :: r, K, h => by
    obtain ⟨vs, ds, h1, h2, h3⟩ := vRes_ok hs (rs := r) h
    exact ⟨a.tmps.getD t undef :: vs, getT st.σ t :: ds, by simp [resF, h1], by simp only [RepL]; exact ⟨hs.tm t, h2⟩, h3⟩
  | .cell t ty :: r, K, h => by
    obtain ⟨ti, hti, h⟩ := h
    have key : ∀ (ad : Addr) (v : Value) (d : D), a.tmps.getD t undef = .pointer (some ad) → (loadVar ty ad).run E.P w = .ok v w → Rep w g v d → (vRes E st.σ st.S r fun ds => K (d :: ds)) →
        ∃ vs ds, ((ResultVar.cell t ty :: r).mapM (resF a.tmps)).run E.P w = .ok vs w ∧ RepL w g vs ds ∧ K ds := by
      intro ad v d e1 e2 e3 hr
      obtain ⟨vs, ds, h1, h2, h3⟩ := vRes_ok hs (rs := r) hr
      refine ⟨v :: vs, d :: ds, ?_, by simp only [RepL]; exact ⟨e3, h2⟩, h3⟩
      simp [resF, e1, asAddr, e2, h1]
    have htm := hs.tm t
    split at h
    · rename_i l off hg
      obtain ⟨ob, hob, h⟩ := h
      split at h
      · rename_i cs
        rw [hg] at htm
        simp only [Rep] at htm
        obtain ⟨b, c, hφ, h1⟩ := htm
        obtain ⟨⟨p, pc⟩, hp, ⟨b', arr, t', h2, h3, h4⟩, _⟩ := hs.ss.obj l _ hob
        rw [hφ] at hp
        cases hp
        cases h2
        obtain ⟨d, hK, hd⟩ := loadD_det h
        obtain ⟨v, d', hv, hd', rfl⟩ := run_load hti (cellsAt_block h3 off) (h4.drop off) hd
        exact key _ v _ h1 hv hd' hK
      · exact h.elim
    · rename_i cs hg
      rw [hg] at htm
      simp only [Rep] at htm
      obtain ⟨ad, vs, h1, hz, hc, hl⟩ := htm
      obtain ⟨d, hK, hd⟩ := loadD_det h
      obtain ⟨v, d', hv, hd', rfl⟩ := run_load hti hc hl.ofCl hd
      exact key _ v _ h1 hv hd' hK
    · exact h.elim

theorem run_results' {fn : Func} {a : Act} {w : World} {g : G} (hs : SimA E st a w g) {K : List D → Prop} (h : vRes E st.σ st.S fn.results.toList K) :
    ∃ v ds, (results fn a.tmps).run E.P w = .ok v w ∧ Rep w g v (packD ds) ∧ K ds := by
  obtain ⟨vs, ds, h1, h2, h3⟩ := vRes_ok hs h
  have hm : (fn.results.mapM (resF a.tmps)).run E.P w = .ok vs.toArray w := by
    rw [Array.mapM_eq_mapM_toList]
    simp [h1]
  have hr : (results fn a.tmps).run E.P w = .ok (if h : vs.toArray.size = 1 then vs.toArray[0] else .tuple vs.toArray) w := by
    have e : results fn a.tmps = (fn.results.mapM (resF a.tmps) >>= fun vs => pure (if h : vs.size = 1 then vs[0] else .tuple vs)) := by
      unfold results
      rfl
    rw [e, Sem.run_bind, hm]
    simp
  refine ⟨_, ds, hr, ?_, h3⟩
  cases vs with
  | nil =>
    have := h2.length
    cases ds with
    | nil => simp only [packD, Rep]; exact ⟨[], rfl, by simp [RepL]⟩
    | cons d r => simp at this
  | cons x r =>
    obtain ⟨d, ds', rfl⟩ : ∃ d ds', ds = d :: ds' := by
      cases ds with
      | nil => simp [RepL] at h2
      | cons d ds' => exact ⟨d, ds', rfl⟩
    cases r with
    | nil =>
      have : ds' = [] := by have := h2.length; simpa using this
      subst this
      simp only [RepL] at h2
      simpa [packD] using h2.1
    | cons y r =>
      have : ∃ d2 ds2, ds' = d2 :: ds2 := by
        cases ds' with
        | nil => have := h2.length; simp at this
        | cons d2 ds2 => exact ⟨d2, ds2, rfl⟩
      obtain ⟨d2, ds2, rfl⟩ := this
      have hne : ¬ ((x :: y :: r).toArray.size = 1) := by simp
      simp only [hne, dite_false, packD, Rep]
      exact ⟨_, rfl, h2⟩
end

def enumT : Nat → List D → List (Nat × D)
  | _, [] => []
  | i, d :: r => (i, d) :: enumT (i + 1) r
theorem getT_enumT {w : World} {g : G} : ∀ {ds : List D} {vs : List Value} {i : Nat} (t : Nat) (r : List Value), RepL w g vs ds → Rep w g ((vs ++ r).getD t undef) (getT (enumT i ds) (i + t))
  | [], _, i, t, r, h => by simp [enumT, getT, Rep]
  | d :: ds, vs, i, t, r, h => by
    obtain ⟨x, xs, rfl, h1, h2⟩ := RepL.cons_iff.1 h
    simp only [enumT, getT]
    cases t with
    | zero => simpa using h1
    | succ t =>
      have : ¬ (i = i + (t + 1)) := by omega
      rw [if_neg this]
      have := getT_enumT (i := i + 1) t r h2
      rw [show i + 1 + t = i + (t + 1) by omega] at this
      simpa using this

/-- The names that are handed in. -/
def idP (pre : Store) (l : Nat) : Option Nat := if (look pre l).isSome then some l else none

/-- How a function must end. -/
def Done {Y : Sy} (E : Env Y) (k : Nat) (rs : List ResultVar) (d : D) (post : Store) : Exit → St → Prop := fun e st =>
  (e = .normal ∨ e = .ret) ∧ ∃ st', Into E st st' ∧ st'.ds = [] ∧ vRes E st'.σ st'.S rs fun ds =>
    ∃ m nx', renB k st'.S nx' m = true ∧ subD (newOf m) (packD ds) = d ∧ weakS (subS m st'.S m) post ∧ (m.all fun x => (look post x.1).isSome) = true

def gPre (pre : Store) (g : G) : G := ⟨g.Z, fun l => if (look pre l).isSome then g.φ l else none⟩
theorem gPre_up {pre : Store} {g : G} : ∀ l p, (gPre pre g).φ l = some p → g.φ l = some p := by
  intro l p h
  simp only [gPre] at h
  split at h
  · exact h
  · cases h
theorem gPre_id {pre : Store} {g : G} : ∀ l l' p, idP pre l = some l' → g.φ l = some p → (gPre pre g).φ l' = some p := by
  intro l l' p h1 h2
  unfold idP at h1
  split at h1
  · rename_i hl; cases h1; simp only [gPre, hl, if_true, h2]
  · cases h1
theorem gPre_wf {pre : Store} {w : World} {g : G} (h : WF w g) : WF w (gPre pre g) := ⟨h.zlt, fun l b c h' => h.flt l b c (gPre_up l _ h')⟩
theorem gPre_lt {pre : Store} {g : G} {n0 : Nat} (hpre : (pre.all fun x => Nat.blt x.1 n0) = true) : ∀ l, (gPre pre g).φ l ≠ none → l < n0 := by
  intro l hl
  simp only [gPre] at hl
  split at hl
  · rename_i hp
    cases hlk : look pre l with
    | none => rw [hlk] at hp; cases hp
    | some o =>
      simp only [List.all_eq_true, Nat.blt_eq] at hpre
      exact hpre _ (look_mem hlk)
  · exact absurd rfl hl
/-- The world that a call or a round is given. -/
structure Given {Y : Sy} (E E1 : Env Y) (w : World) (g : G) (pre : Store) : Prop where
  r : Reach E w g
  s : SimS E w g (look pre)
  w0 : E1.w0 = w
  g0 : E1.g0 = gPre pre g
  o0 : E1.own0 = ownC g (look pre)
section
variable {Y : Sy} {E E1 : Env Y} {w : World} {g : G} {pre : Store}
theorem Given.sim (h : Given E E1 w g pre) (hS : mapS (subO (idP pre)) pre = pre) : Reach E1 w (gPre pre g) ∧ SimS E1 w (gPre pre g) (look pre) := by
  obtain ⟨hr, hs, e1, e2, e3⟩ := h
  refine ⟨⟨?_, gPre_wf hr.wf⟩, fun l o hl => ?_, fun l l' b x x' h1 h2 hne hp hp' => hs.apart l l' b x x' h1 h2 hne (gPre_up _ _ hp) (gPre_up _ _ hp')⟩
  · rw [e1, e2, e3]; exact Tr.refl _ _ _
  · have hl' : look (mapS (subO (idP pre)) pre) l = some o := by rw [hS]; exact hl
    rw [look_mapS] at hl'
    simp only [Option.map_eq_some_iff] at hl'
    obtain ⟨o0, h1, h2⟩ := hl'
    obtain ⟨p, hp, ho, hn⟩ := hs.obj l o0 h1
    have hφ1 : (gPre pre g).φ l = some p := gPre_id l l p (by simp [idP, hl]) hp
    refine ⟨p, hφ1, by rw [← h2]; exact ObjRep.sub (g := g) (g' := gPre pre g) (fun _ h => h) gPre_id ho, fun b hb => ⟨(hn b hb).1, fun _ => ?_⟩⟩
    obtain ⟨p1, p2⟩ := p
    simp only at hb
    subst hb
    rw [e3]
    exact ⟨l, p2, by rw [hl]; simp, hp⟩
theorem Given.args (_ : Given E E1 w g pre) {vs : List Value} {args : List D} (hargs : subL (idP pre) args = args) (hvs : RepL w g vs args) : RepL w (gPre pre g) vs args := by
  have := RepL.sub (g := g) (g' := gPre pre g) (fun _ h => h) gPre_id hvs
  rwa [hargs] at this
theorem Given.fin (h : Given E E1 w g pre) {n0 : Nat} (h0 : ∀ l, E1.g0.φ l ≠ none → l < n0) {post : Store} (hfresh : ∀ l, look pre l = none → look post l ≠ none → g.φ l = none) {w' : World} {g2 : G} {S2 : Store}
    (hr2 : Reach E1 w' g2) (hs2 : SimS E1 w' g2 (look S2)) {m : List (Nat × Nat)} {nx' : Nat} (hm : renB n0 S2 nx' m = true) (hpost : weakS (subS m S2 m) post) (hmp : (m.all fun x => (look post x.1).isSome) = true) :
    ∃ g4, Move E (look pre) (look post) w g w' g4 ∧ ∀ v d, Rep w' g2 v d → Rep w' g4 v (subD (newOf m) d) := by
  obtain ⟨hr, hs, ew, eg, eo⟩ := h
  have hup1 : ∀ l p, E1.g0.φ l = some p → g.φ l = some p := by rw [eg]; exact gPre_up
  obtain ⟨q1, q2, q3, q4⟩ := ren_ok h0 hm hr2 hs2
  let g3 := relab E1 m g2
  let g4 : G := ⟨g3.Z, fun l => if (look post l).isSome then g3.φ l else g.φ l⟩
  have hg13 : ∀ l p, E1.g0.φ l = some p → g3.φ l = some p := q1.tr.fmono
  have h34 : ∀ l p, g3.φ l = some p → g4.φ l = some p := by
    intro l p hp
    simp only [g4]
    split
    · exact hp
    · rename_i hn
      obtain ⟨_, h5 | h5⟩ := q4 l (show g3.φ l ≠ none by rw [hp]; simp)
      · cases h6 : E1.g0.φ l with
        | none => exact absurd h6 h5.2
        | some p' =>
          have h7 := hg13 l p' h6
          rw [hp] at h7
          cases h7
          exact hup1 l p h6
      · exfalso
        cases h6 : oldOf m l with
        | none => exact h5 h6
        | some o' =>
          simp only [List.all_eq_true] at hmp
          exact hn (hmp _ (oldOf_mem h6))
  have q1' := q1.tr
  rw [ew, eo] at q1'
  have hZ0 : E1.g0.Z = g.Z := by rw [eg]; rfl
  have htr : Tr (ownC g (look pre)) w g w' g4 := by
    refine ⟨q1'.os, q1'.tape, q1'.output, q1'.size, q1'.keep, fun b hb => q1'.zmono b (by rw [hZ0]; exact hb), fun b hb h1 h2 => by have := q1'.znew b hb h1 h2; rwa [hZ0] at this, fun l p hp => ?_, fun l b c hp hn => ?_⟩
    · simp only [g4]
      split
      · rename_i hps
        cases hl : look pre l with
        | none =>
          have := hfresh l hl (by intro e; rw [e] at hps; cases hps)
          rw [hp] at this; cases this
        | some o => exact hg13 l p (by rw [eg]; simp only [gPre, hl, Option.isSome_some, if_true, hp])
      · exact hp
    · simp only [g4] at hp
      split at hp
      · exact q1'.fnew l b c hp (by
          cases h5 : E1.g0.φ l with
          | none => rfl
          | some p => have := hup1 l p h5; rw [hn] at this; cases this)
      · rw [hn] at hp; cases hp
  have hS' : SimS E1 w' g3 (look post) := q3.sub fun l o hl => weakS_look hpost hl
  refine ⟨g4, ⟨htr, ⟨q1.wf.zlt, fun l b c hp => ?_⟩, ⟨fun l o hl => ?_, fun l l' b x x' h1 h2 hne hp hp' => ?_⟩, fun l hl => ?_⟩, fun v d hv => ?_⟩
  · simp only [g4] at hp
    split at hp
    · exact q1.wf.flt l b c hp
    · have := hr.wf.flt l b c hp; have := htr.size; omega
  · obtain ⟨p, hp, ho, hn⟩ := hS'.obj l o hl
    refine ⟨p, h34 l p hp, ?_, fun b hb => ⟨(hn b hb).1, fun hlt => ?_⟩⟩
    · have hz : ∀ b, g3.Z b → g4.Z b := fun _ h => h
      cases o with
      | box cs => obtain ⟨b, arr, t, r1, r2, r3⟩ := ho; exact ⟨b, arr, t, r1, r2, RepL.up (g := g3) (g' := g4) hz h34 r3⟩
      | row e size es =>
        rcases ho with r | ⟨b, arr, r1, r2, r3, r4, r5, r6, r7⟩
        · exact .inl r
        · exact .inr ⟨b, arr, r1, r2, r3, r4, r5, r6, RepE.up (g := g3) (g' := g4) hz h34 r7⟩
      | mp es => obtain ⟨b, arr, clock, r1, r2, r3, r4, r5⟩ := ho; exact ⟨b, arr, clock, r1, r2, r3, RepL.up (g := g3) (g' := g4) hz h34 r4, r5⟩
      | si s pos => exact ho
      | lp s pd σ m ps as bd => obtain ⟨b, r, q1, q2, q3, q4, q5, q6, q7, q8⟩ := ho; exact ⟨b, r, q1, q2, q3, q4, q5, q6, q7, q8.mono fun _ _ h => Rep.up (g := g3) (g' := g4) hz h34 h⟩
    · have h8 := (hn b hb).2 (by rw [ew]; exact Nat.lt_of_lt_of_le hlt hr.tr.size)
      rw [eo] at h8
      exact hs.own_own0 b hlt h8
  · have e1 : (look post l).isSome = true := by cases h5 : look post l with | none => exact absurd h5 h1 | some _ => rfl
    have e2 : (look post l').isSome = true := by cases h5 : look post l' with | none => exact absurd h5 h2 | some _ => rfl
    simp only [g4, e1, e2, if_true] at hp hp'
    exact hS'.apart l l' b x x' h1 h2 hne hp hp'
  · simp only [g4] at hl
    split at hl
    · rename_i h5
      exact .inr (by intro e; rw [e] at h5; cases h5)
    · exact .inl hl
  · exact Rep.up (g := g3) (g' := g4) (fun _ h => h) h34 (Rep.sub (g := g2) (g' := g3) (fun _ h => h) q2 hv)
end

theorem FnOK.introR {Y : Sy} {k : Nat} {args : List D} {pre : Store} {d : D} {post : Store} (fn : Func) {body : Code} (hf : Y.P.funcs[k]? = some fn) (hnm : (fn.name == "runtime.NumGoroutine") = false) (hb : fn.body = some body)
    (rs : List ResultVar) (hrs : fn.results.toList = rs) (n0 : Nat) (hpre : (pre.all fun x => Nat.blt x.1 n0) = true) (hna : args.length ≤ fn.ntmps) (hargs : subL (idP pre) args = args) (hS : mapS (subO (idP pre)) pre = pre)
    (h : ∀ E : Env Y, E.N = fn.ntmps → E.rd = none → (∀ l, E.g0.φ l ≠ none → l < n0) → W E body ⟨enumT 0 args, pre, n0, []⟩ (Done E n0 rs d post)) : FnOK Y k args pre d post := by
  subst hrs
  refine ⟨⟨fn, hf, hnm, by rw [hb]; rfl⟩, fun E w g vs hr hvs hs hfresh => ?_⟩
  let E1 : Env Y := ⟨E.F.plain, E.hF, E.hd, E.hal, fn.ntmps, w, gPre pre g, ownC g (look pre), hs.own_z, gPre_wf hr.wf, fun i => (E.hgl i).tr hr.tr.cl E.wf0.cl E.hz0, none, rfl⟩
  have hG : Given E E1 w g pre := ⟨hr, hs, rfl, rfl, rfl⟩
  obtain ⟨hr1, hs1⟩ := hG.sim hS
  have hargs1 := hG.args hargs hvs
  have h0 : ∀ l, E1.g0.φ l ≠ none → l < n0 := gPre_lt hpre
  have hlen : vs.length = args.length := hvs.length
  have hsim : SimA E1 ⟨enumT 0 args, pre, n0, []⟩ { tmps := vs.toArray ++ Array.replicate (fn.ntmps - vs.toArray.size) undef, defers := [] } w (gPre pre g) := by
    refine ⟨hr1, fun t => ?_, hs1, by simp [E1]; omega, Marks.nil, fun l hl => h0 l hl⟩
    have := getT_enumT (i := 0) t (List.replicate (fn.ntmps - vs.length) undef) hargs1
    rw [Nat.zero_add] at this
    have e : vs.toArray ++ Array.replicate (fn.ntmps - vs.toArray.size) undef = (vs ++ List.replicate (fn.ntmps - vs.length) undef).toArray := by apply Array.toList_inj.1; simp
    rw [e]
    simpa [Array.getD_eq_getD_getElem?, List.getD_eq_getElem?_getD] using this
  have hcall : CallsIn E1.F 0 Y.P k vs.toArray w (fun e w' => ∃ v g', e = .returned v ∧ Move E (look pre) (look post) w g w' g' ∧ Rep w' g' v d) := by
    refine callsIn_of_wp_marks hf hb (E1.hF k) ?_
    refine wpIn_mono (h E1 rfl rfl h0 _ w _ hsim) ?_
    rintro e a' w' ⟨st', g', ⟨he, st2, hinto, hds, hres⟩, hs'⟩
    obtain ⟨g2, hs2⟩ := hinto a' w' g' hs'
    suffices hlv : LeavesInM E1.F 0 Y.P fn a'.tmps (fun e w' => ∃ v g', e = .returned v ∧ Move E (look pre) (look post) w g w' g' ∧ Rep w' g' v d) a'.defers .returning w' by
      rcases he with rfl | rfl <;> exact hlv
    refine leavesM a'.defers rfl hs2 ?_
    clear hs2 hs'
    intro a' w' hs2 _
    obtain ⟨v, ds, hrun, hv, m, nx', hm, hd, hpost, hmp⟩ := run_results' hs2 hres
    obtain ⟨g4, hM, hrep⟩ := hG.fin h0 hfresh hs2.rc hs2.ss hm hpost hmp
    exact ⟨v, hrun, v, g4, rfl, hM, by have := hrep v _ hv; rwa [hd] at this⟩
  exact hcall
theorem FnOK.intro {Y : Sy} {k : Nat} {args : List D} {pre : Store} {d : D} {post : Store} (fn : Func) {body : Code} (hf : Y.P.funcs[k]? = some fn) (hnm : (fn.name == "runtime.NumGoroutine") = false) (hb : fn.body = some body)
    (rs : List ResultVar) (hrs : fn.results.toList = rs) (n0 : Nat) (hpre : (pre.all fun x => Nat.blt x.1 n0) = true) (hna : args.length ≤ fn.ntmps) (hargs : subL (idP pre) args = args) (hS : mapS (subO (idP pre)) pre = pre)
    (h : ∀ E : Env Y, E.N = fn.ntmps → (∀ l, E.g0.φ l ≠ none → l < n0) → W E body ⟨enumT 0 args, pre, n0, []⟩ (Done E n0 rs d post)) : FnOK Y k args pre d post :=
  FnOK.introR fn hf hnm hb rs hrs n0 hpre hna hargs hS fun E hN _ h0 => h E hN h0
end Go.Abs
namespace Go.Abs
open Go

def assocT : List (Nat × TI) → Nat → Option TI
  | [], _ => none
  | (k, x) :: r, t => if k = t then some x else assocT r t
def AllT (P : Program) : List (Nat × TI) → Prop
  | [] => True
  | (k, x) :: r => tiOf P k = some x ∧ AllT P r
theorem assocT_ok {P : Program} : ∀ {l : List (Nat × TI)}, AllT P l → ∀ t ti, assocT l t = some ti → tiOf P t = some ti
  | [], _, t, ti, h => by simp [assocT] at h
  | (k, x) :: r, ha, t, ti, h => by
    simp only [assocT] at h
    split at h
    · rename_i e; subst e; cases h; exact ha.1
    · exact assocT_ok ha.2 t ti h

section
variable {Y : Sy} {E : Env Y} {st st' : St} {Q Q' : Exit → St → Prop} {c c' : Code}

/-- What comes behind stays out of sight. -/
theorem W.seqK (h : ∀ K : St → Prop, (∀ st', W E c' st' Q → K st') → W E c st (thenQ K Q)) : W E (.seq c c') st Q := W.seq (h _ fun _ h => h)

/-- Another view of the state, at the way out. -/
def IQ {Y : Sy} (E : Env Y) (Q : Exit → St → Prop) (e : Exit) (st : St) : Prop := ∃ st', Into E st st' ∧ Q e st'
theorem iq {e : Exit} (hi : Into E st st') (h : Q e st') : IQ E Q e st := ⟨st', hi, h⟩
theorem W.iq (h : W E c st (IQ E Q)) : W E c st Q := fun a w g hs =>
  wpIn_mono (h a w g hs) fun _ a' w' ⟨_, g', ⟨st', hi, q⟩, s⟩ => let ⟨g2, hs2⟩ := hi a' w' g' s; ⟨st', g2, q, hs2⟩
theorem W.loopP {α : Type} (inv : α → St) (P : α → Prop) (m : α → Nat) (x0 : α) (hp : P x0) (h0 : Into E st (inv x0))
    (h : ∀ x, P x → W E c (inv x) (thenQ (fun st' => ∃ y, P y ∧ m y < m x ∧ Into E st' (inv y)) (IQ E Q))) : W E (.loop c) st Q := by
  refine W.iq (W.loop (α := {x : α // P x}) (fun x => inv x.1) (fun x => m x.1) ⟨x0, hp⟩ h0 fun x => ?_)
  refine (h x.1 x.2).mono ?_
  intro e st' q
  cases e with
  | normal =>
    obtain ⟨y, hy, hm, hi⟩ := q
    exact ⟨⟨y, hy⟩, hm, hi⟩
  | _ => exact q

/-- No slice is longer than memory. -/
theorem W.bound (t : Nat) {es : List (List D)} {sz : Nat} (ht : getT st.σ t = .sl es sz) (h : es.length ≤ maxLen → W E c st Q) : W E c st Q := fun a w g hs => by
  have := hs.tm t
  rw [ht] at this
  simp only [Rep] at this
  obtain ⟨_, c, _, h1, h2, _⟩ := this
  exact h (by omega) a w g hs
theorem W.boundO (l : Nat) {e : TypeId} {sz : Nat} {es : List (List D)} (ht : look st.S l = some (.row e sz es)) (h : es.length ≤ maxLen → W E c st Q) : W E c st Q := fun a w g hs => by
  obtain ⟨p, _, ho, _⟩ := hs.ss.obj l _ ht
  refine h ?_ a w g hs
  rcases ho with ⟨_, rfl⟩ | ⟨b, arr, _, _, h3, h4, _⟩
  · simp
  · omega
/-- A slice within a variable of one's own. -/
theorem W.boundS (l : Nat) {i : Nat} {cs : List D} {es : List (List D)} {sz : Nat} (ht : look st.S l = some (.box cs)) (hc : cs[i]? = some (.sl es sz)) (h : es.length ≤ maxLen → W E c st Q) : W E c st Q := fun a w g hs => by
  obtain ⟨p, _, ⟨b, arr, t, _, _, hl⟩, _⟩ := hs.ss.obj l _ ht
  obtain ⟨x, _, hx⟩ := hl.get hc
  simp only [Rep] at hx
  obtain ⟨_, c, _, h1, h2, _⟩ := hx
  exact h (by omega) a w g hs
end

/-! ### What is as good as another -/
def LeD (d d' : D) : Prop := ∀ w g x, Rep w g x d → Rep w g x d'
def LeO (o o' : AO) : Prop := ∀ w g p, ObjRep w g p o → ObjRep w g p o'
def LeL (ds ds' : List D) : Prop := ∀ w g xs, RepL w g xs ds → RepL w g xs ds'
theorem LeD.self (d : D) : LeD d d = True := eq_true fun _ _ _ h => h
theorem LeO.self (o : AO) : LeO o o = True := eq_true fun _ _ _ h => h
theorem LeL.self (ds : List D) : LeL ds ds = True := eq_true fun _ _ _ h => h
theorem LeD.refl (d : D) : LeD d d := fun _ _ _ h => h
theorem LeO.refl (d : AO) : LeO d d := fun _ _ _ h => h
theorem LeL.nil : LeL [] [] := fun _ _ _ h => h
theorem LeL.cons {d d' : D} {ds ds' : List D} (h : LeD d d') (h' : LeL ds ds') : LeL (d :: ds) (d' :: ds') := fun w g xs hx => by
  obtain ⟨x, r, rfl, h1, h2⟩ := RepL.cons_iff.1 hx
  exact ⟨h _ _ _ h1, h' _ _ _ h2⟩
theorem LeD.agg {ds ds' : List D} (h : LeL ds ds') : LeD (.agg ds) (.agg ds') := fun w g x hx => by
  simp only [Rep] at hx ⊢
  obtain ⟨vs, rfl, h1⟩ := hx
  exact ⟨vs, rfl, h _ _ _ h1⟩
theorem LeD.tup {ds ds' : List D} (h : LeL ds ds') : LeD (.tup ds) (.tup ds') := fun w g x hx => by
  simp only [Rep] at hx ⊢
  obtain ⟨vs, rfl, h1⟩ := hx
  exact ⟨vs, rfl, h _ _ _ h1⟩
theorem LeD.any (d : D) : LeD d .any := fun _ _ _ _ => by simp [Rep]
theorem LeD.nil (sz : Nat) : LeD (.v (.slice none 0 0)) (.sl [] sz) := fun w g x h => by
  simp only [Rep] at h ⊢
  exact ⟨none, 0, by simpa using h, by simp, by unfold maxLen; omega, by simp, by simp⟩
theorem LeD.sl {es es' : List (List D)} {sz : Nat} (hl : es.length = es'.length) (hs : ∀ e ∈ es', e.length = sz) (h : ∀ (i : Nat) e e', es[i]? = some e → es'[i]? = some e' → LeL e e') : LeD (.sl es sz) (.sl es' sz) := fun w g x hx => by
  simp only [Rep] at hx ⊢
  obtain ⟨a, c, rfl, h1, h2, h3, h4⟩ := hx
  refine ⟨a, c, by rw [hl], by omega, h2, hs, fun hn => ?_⟩
  obtain ⟨ad, rfl, hz, hr⟩ := h4 (by intro e; rw [e] at hl; exact hn (List.eq_nil_of_length_eq_zero hl.symm))
  refine ⟨ad, rfl, hz, RepE.of_get fun i e' hi => ?_⟩
  obtain ⟨e, he⟩ : ∃ e, es[i]? = some e := ⟨_, List.getElem?_eq_getElem (by have := (List.getElem?_eq_some_iff.1 hi).1; omega)⟩
  obtain ⟨vs, hc, hv⟩ := hr.get he
  exact ⟨vs, hc, h i e e' he hi _ _ _ hv⟩
theorem LeO.box {cs cs' : List D} (h : LeL cs cs') : LeO (.box cs) (.box cs') := fun w g p ⟨b, arr, t, h1, h2, h3⟩ => ⟨b, arr, t, h1, h2, h _ _ _ h3⟩
theorem LeO.row {t : TypeId} {es es' : List (List D)} {sz : Nat} (hl : es.length = es'.length) (hs : ∀ e ∈ es', e.length = sz) (h : ∀ (i : Nat) e e', es[i]? = some e → es'[i]? = some e' → LeL e e') : LeO (.row t sz es) (.row t sz es') := fun _ _ _ hx => by
  rcases hx with ⟨h1, rfl⟩ | ⟨b, arr, h1, h2, h3, h4, h5, h6, h7⟩
  · exact .inl ⟨h1, List.eq_nil_of_length_eq_zero hl.symm⟩
  · refine .inr ⟨b, arr, h1, h2, by omega, h4, h5, hs, RepE.of_get fun i e' hi => ?_⟩
    obtain ⟨e, he⟩ : ∃ e, es[i]? = some e := ⟨_, List.getElem?_eq_getElem (by have := (List.getElem?_eq_some_iff.1 hi).1; omega)⟩
    obtain ⟨vs, hc, hv⟩ := h7.get he
    exact ⟨vs, hc, h i e e' he hi _ _ _ hv⟩

def leT (σ : List (Nat × D)) : List (Nat × D) → Prop
  | [] => True
  | (t, d) :: r => LeD (getT σ t) d ∧ leT σ r
def optLe : Option AO → AO → Prop
  | some o, o' => LeO o o'
  | none, _ => False
def leS (S : Store) : Store → Prop
  | [] => True
  | (l, o) :: r => optLe (look S l) o ∧ leS S r
theorem leT_get {σ : List (Nat × D)} : ∀ {σ' : List (Nat × D)}, leT σ σ' → ∀ t, LeD (getT σ t) (getT σ' t)
  | [], _, t => LeD.any _
  | (u, d) :: r, h, t => by
    simp only [getT]
    split
    · rename_i e; subst e; exact h.1
    · exact leT_get h.2 t
theorem leS_look {S : Store} : ∀ {S' : Store}, leS S S' → ∀ {l o}, look S' l = some o → ∃ o0, look S l = some o0 ∧ LeO o0 o
  | [], _, l, o, h => by simp [look] at h
  | (k, ob) :: r, hw, l, o, h => by
    simp only [look] at h
    split at h
    · rename_i e
      subst e
      cases h
      have := hw.1
      cases hl : look S k with
      | none => rw [hl] at this; exact this.elim
      | some o0 => rw [hl] at this; exact ⟨o0, rfl, this⟩
    · exact leS_look hw.2 h
theorem Into.le {Y : Sy} {E : Env Y} {st st' : St} (hσ : leT st.σ st'.σ) (hS : leS st.S st'.S) (hnx : st.nx ≤ st'.nx) (hds : st'.ds = st.ds) : Into E st st' := fun a w g hs =>
  ⟨g, hs.rc, fun t => leT_get hσ t _ _ _ (hs.tm t), ⟨fun l o h => by
    obtain ⟨o0, h1, h2⟩ := leS_look hS h
    obtain ⟨p, hp, ho, hn⟩ := hs.ss.obj l o0 h1
    exact ⟨p, hp, h2 _ _ _ ho, hn⟩, fun l l' b x x' h1 h2 => by
    refine hs.ss.apart l l' b x x' ?_ ?_
    · intro e
      cases h : look st'.S l with
      | none => exact h1 h
      | some o => obtain ⟨o0, h3, _⟩ := leS_look hS h; rw [e] at h3; cases h3
    · intro e
      cases h : look st'.S l' with
      | none => exact h2 h
      | some o => obtain ⟨o0, h3, _⟩ := leS_look hS h; rw [e] at h3; cases h3⟩, hs.sz, hs.df, fun l hl => Nat.lt_of_lt_of_le (hs.nm l hl) hnx⟩
theorem FnOK.leArgs {Y : Sy} {k : Nat} {args args' : List D} {pre post : Store} {d : D} (h : FnOK Y k args' pre d post) (hl : LeL args args') : FnOK Y k args pre d post :=
  ⟨h.1, fun E w g vs hr hv => h.2 E w g vs hr (hl _ _ _ hv)⟩
theorem FnOK.leRes {Y : Sy} {k : Nat} {args : List D} {pre post : Store} {d d' : D} (h : FnOK Y k args pre d post) (hl : LeD d d') : FnOK Y k args pre d' post :=
  ⟨h.1, fun E w g vs hr hv hs hf => (h.2 E w g vs hr hv hs hf).mono fun _ _ ⟨v, g', e, hm, hv⟩ => ⟨v, g', e, hm, hl _ _ _ hv⟩⟩

theorem loadD_mono {ti : TI} {cs : List D} {K K' : D → Prop} (hK : ∀ d, K d → K' d) (h : loadD ti cs K) : loadD ti cs K' := by
  unfold loadD at h ⊢
  cases hag : ti.agg with
  | true => rw [hag] at h; exact ⟨h.1, hK _ h.2⟩
  | false =>
    rw [hag] at h
    obtain ⟨x, hx, e⟩ := h
    exact ⟨x, hx, hK _ e⟩
theorem vRes_mono {Y : Sy} {E : Env Y} {σ : List (Nat × D)} {S : Store} : ∀ {rs : List ResultVar} {K K' : List D → Prop}, (∀ ds, K ds → K' ds) → vRes E σ S rs K → vRes E σ S rs K'
  | [], _, _, hK, h => hK _ h
  | .tmp _ :: r, _, _, hK, h => vRes_mono (rs := r) (fun _ h => hK _ h) h
  | .cell t ty :: r, _, _, hK, ⟨ti, hti, h⟩ => by
    refine ⟨ti, hti, ?_⟩
    split at h
    · obtain ⟨ob, hob, h⟩ := h
      refine ⟨ob, hob, ?_⟩
      split at h
      · exact loadD_mono (fun d h => vRes_mono (rs := r) (fun _ h => hK _ h) h) h
      · exact h.elim
    · exact loadD_mono (fun d h => vRes_mono (rs := r) (fun _ h => hK _ h) h) h
    · exact h.elim
theorem Done.mk {Y : Sy} {E : Env Y} {k : Nat} {rs : List ResultVar} {d : D} {post : Store} {e : Exit} {st st' : St} (he : e = .normal ∨ e = .ret) (hi : Into E st st') (hds : st'.ds = []) (m : List (Nat × Nat)) (nx' : Nat)
    (hm : renB k st'.S nx' m = true) (h : vRes E st'.σ st'.S rs fun ds => subD (newOf m) (packD ds) = d) (hp : weakS (subS m st'.S m) post) (ha : (m.all fun x => (look post x.1).isSome) = true) : Done E k rs d post e st :=
  ⟨he, st', hi, hds, vRes_mono (fun _ h => ⟨m, nx', hm, h, hp, ha⟩) h⟩

theorem wrap64 (n : Int) (h1 : -9223372036854775808 ≤ n) (h2 : n ≤ 9223372036854775807) : IntKind.wrap .i64 n = n := by
  simp only [IntKind.wrap, IntKind.bits, IntKind.signed]
  simp
  omega
theorem wrapTo {n m : Int} (h : n = m ∧ -9223372036854775808 ≤ m ∧ m ≤ 9223372036854775807) : IntKind.wrap .i64 n = m := by
  obtain ⟨rfl, h1, h2⟩ := h
  exact wrap64 n h1 h2
end Go.Abs
namespace Go.Abs
open Go

/-- The operations of a region that are still to run. -/
structure VO {Y : Sy} (E : Env Y) (N : Nat) (fz : List Nat) (ops : Array Oper) (draw : Bool) (K : RT) (r : List Oper) (σ : List (Nat × D)) (S : Store) (nx : Nat) (acc : List Sk) : Prop where
  h : vops E N fz ops draw K r σ S nx acc

section
variable {Y : Sy} {E : Env Y} {N : Nat} {fz : List Nat} {ops : Array Oper} {draw : Bool} {K : RT} {r : List Oper} {σ : List (Nat × D)} {S : Store} {nx : Nat} {acc : List Sk} {st st' : St} {Q Q' : Exit → St → Prop} {c c' : Code} {id : Nat} {ds : List Deferred}

/-! ### One operation at a time; what comes behind stays out of sight -/
theorem st_op {t : Nat} {op : Op} {ty : TypeId} {pos : String} {af : Array Edge}
    (h : ∀ K' : KT, (∀ d S' nx' ls ws, VO E N fz ops draw K r ((t, d) :: σ) S' nx' (⟨gTmp ops ⟨some t, op, ty, pos, af, none⟩ ++ opTmps ⟨some t, op, ty, pos, af, none⟩, ls, [t], ws⟩ :: acc) → K' d S' nx' ls ws) → vop E (memN fz t) σ op S nx K') :
    VO E N fz ops draw K (⟨some t, op, ty, pos, af, none⟩ :: r) σ S nx acc := ⟨h _ fun _ _ _ _ _ h => h.h⟩
theorem st_op0 {op : Op} {ty : TypeId} {pos : String} {af : Array Edge}
    (h : ∀ K' : KT, (∀ d S' nx' ls ws, VO E N fz ops draw K r σ S' nx' (⟨gTmp ops ⟨none, op, ty, pos, af, none⟩ ++ opTmps ⟨none, op, ty, pos, af, none⟩, ls, [], ws⟩ :: acc) → K' d S' nx' ls ws) → vop E false σ op S nx K') :
    VO E N fz ops draw K (⟨none, op, ty, pos, af, none⟩ :: r) σ S nx acc := ⟨h _ fun _ _ _ _ _ h => h.h⟩
/-- A guard: 'q' is what it hangs on; the guard itself may have been passed over. -/
def guardD (d : D) (b : Bool) (A B C : Prop) : Prop := match d with
  | .v (.bool q) => (q = b → A) ∧ (q = !b → B)
  | .v (.tuple vs) => vs = #[] ∧ C
  | _ => False
/-- An operation whose guard holds. -/
def vopsT {Y : Sy} (E : Env Y) (N : Nat) (fz : List Nat) (ops : Array Oper) (draw : Bool) (K : RT) (o : Oper) (r : List Oper) (σ : List (Nat × D)) (S : Store) (nx : Nat) (acc : List Sk) : Prop :=
  vop E (fzOf fz o) σ o.op S nx fun d S' nx' ls ws => vops E N fz ops draw K r (setO σ o.dst d) S' nx' (⟨gTmp ops o ++ opTmps o, ls, o.dst.toList, ws⟩ :: acc)
theorem vopsT_h {o : Oper} (h : vopsT E N fz ops draw K o r σ S nx acc) : vop E (fzOf fz o) σ o.op S nx fun d S' nx' ls ws => vops E N fz ops draw K r (setO σ o.dst d) S' nx' (⟨gTmp ops o ++ opTmps o, ls, o.dst.toList, ws⟩ :: acc) := h
theorem st_opT {t : Nat} {op : Op} {ty : TypeId} {pos : String} {af : Array Edge} {gd : Option (Nat × Bool)}
    (h : ∀ K' : KT, (∀ d S' nx' ls ws, VO E N fz ops draw K r ((t, d) :: σ) S' nx' (⟨gTmp ops ⟨some t, op, ty, pos, af, gd⟩ ++ opTmps ⟨some t, op, ty, pos, af, gd⟩, ls, [t], ws⟩ :: acc) → K' d S' nx' ls ws) → vop E (memN fz t) σ op S nx K') :
    vopsT E N fz ops draw K ⟨some t, op, ty, pos, af, gd⟩ r σ S nx acc := h _ fun _ _ _ _ _ h => h.h
theorem st_grd {t g : Nat} {op : Op} {ty : TypeId} {pos : String} {af : Array Edge} {j : Nat} {b : Bool} (hg : gDst ops j = some g)
    (h : ∀ A B C : Prop, (vopsT E N fz ops draw K ⟨some t, op, ty, pos, af, some (j, b)⟩ r ((g, .v (.bool b)) :: σ) S nx acc → A) → (VO E N fz ops draw K r ((t, .v (.tuple #[])) :: (g, .v (.bool !b)) :: σ) S nx (⟨gTmp ops ⟨some t, op, ty, pos, af, some (j, b)⟩, [], [t], []⟩ :: acc) → B) →
      (VO E N fz ops draw K r ((t, .v (.tuple #[])) :: σ) S nx (⟨gTmp ops ⟨some t, op, ty, pos, af, some (j, b)⟩, [], [t], []⟩ :: acc) → C) → guardD (getT σ g) b A B C) :
    VO E N fz ops draw K (⟨some t, op, ty, pos, af, some (j, b)⟩ :: r) σ S nx acc := by
  have h' := h _ _ _ (fun h => h) (fun h => h) (fun h => h)
  constructor
  unfold guardD at h'
  split at h'
  · rename_i q hq
    exact ⟨g, hg, .inr ⟨q, hq, fun e => vopsT_h (h'.1 e), fun e => (h'.2 e).h⟩⟩
  · rename_i vs hq
    obtain ⟨rfl, h'⟩ := h'
    exact ⟨g, hg, .inl ⟨hq, h'.h⟩⟩
  · exact h'.elim
theorem st_end (hc : chk N ops draw acc = true) (h : K σ S nx) : VO E N fz ops draw K [] σ S nx acc := ⟨hc, h⟩

/-! ### The code around -/
def vcode {Y : Sy} (E : Env Y) (N : Nat) (fz : List Nat) : Code → St → (Exit → St → Prop) → Prop
  | .skip, st, Q => Q .normal st
  | .label _, st, Q => Q .normal st
  | .exit id, st, Q => Q (.exit id) st
  | .goto l, st, Q => Q (.goto l) st
  | .ret, st, Q => Q .ret st
  | .region _ ops draw, st, Q => VO E N fz ops draw (fun σ S nx => Q .normal ⟨σ, S, nx, st.ds⟩) ops.toList st.σ st.S st.nx []
  | .seq a b, st, Q => vcode E N fz a st (thenQ (fun st' => vcode E N fz b st' Q) Q)
  | .block id c, st, Q => vcode E N fz c st (blockQ id Q)
  | .scope c, st, Q => vcode E N fz c st (scopeQ Q)
  | .cond x a b, st, Q => ∃ q, evD E.gl st.σ x = .v (.bool q) ∧ (q = true → vcode E N fz a st Q) ∧ (q = false → vcode E N fz b st Q)
  | .loop c, st, Q => W E (.loop c) st Q
  | .rangeFunc f ps a b, st, Q => W E (.rangeFunc f ps a b) st Q
  | .refuse _, _, _ => False
theorem W.code (fz : List Nat) (hN : E.N = N) : ∀ {c : Code} {st : St} {Q : Exit → St → Prop}, vcode E N fz c st Q → W E c st Q
  | .skip, _, _, h => W.skip h
  | .label _, _, _, h => W.label h
  | .exit _, _, _, h => W.exit h
  | .goto _, _, _, h => W.goto h
  | .ret, _, _, h => W.ret h
  | .region _ _ _, _, _, h => W.region fz hN h.h
  | .seq a b, st, Q, h => by
    refine W.seq ((W.code fz hN (c := a) h).mono ?_)
    intro e st' q
    cases e with
    | normal => exact W.code fz hN (c := b) q
    | _ => exact q
  | .block id c, st, Q, h => W.block (W.code fz hN (c := c) h)
  | .scope c, st, Q, h => W.scope (W.code fz hN (c := c) h)
  | .cond x a b, st, Q, ⟨q, h1, h2, h3⟩ => W.cond h1 (fun e => W.code fz hN (c := a) (h2 e)) (fun e => W.code fz hN (c := b) (h3 e))
  | .loop _, _, _, h => h
  | .rangeFunc _ _ _ _, _, _, h => h
def condD (d : D) (A B : Prop) : Prop := match d with
  | .v (.bool q) => (q = true → A) ∧ (q = false → B)
  | _ => False
theorem st_cond {x : Operand} (h : ∀ A B : Prop, (vcode E N fz c st Q → A) → (vcode E N fz c' st Q → B) → condD (evD Y.gl st.σ x) A B) : vcode E N fz (.cond x c c') st Q := by
  have h' := h _ _ (fun h => h) (fun h => h)
  unfold condD at h'
  split at h'
  · rename_i q hq
    exact ⟨q, hq, h'.1, h'.2⟩
  · exact h'.elim
end
attribute [go_sem] true_imp_iff false_imp_iff eq_self List.length_map List.getElem?_map List.map_cons List.map_nil Option.map_some Option.map_none Option.bind_some cond_true cond_false List.elem_nil List.elem_cons List.getElem?_cons_zero List.getElem?_cons_succ List.getElem?_nil List.drop_zero List.drop_succ_cons List.drop_nil List.take_zero List.take_succ_cons List.head?_cons List.length_cons List.length_nil List.append_nil List.nil_append List.cons_append Int.toNat_natCast true_and and_true Value.oneCell' List.all_cons List.all_nil Bool.and_true Bool.true_and decide_eq_true_eq decide_eq_false_iff_not D.v.injEq Value.bool.injEq Value.int.injEq Nat.zero_add Nat.add_zero Option.some.injEq ne_eq not_false_eq_true not_true_eq_false Int.natCast_nonneg Bool.not_true Bool.not_false
attribute [go_sem] List.replicate_succ List.replicate_zero List.set_cons_zero List.set_cons_succ allFree memN vop vMove vPick vNil isPtr vExtract vFunc vNew vBox vAlloc vFieldAddr addD vField vIndexAddr intD vIndex vLoad vStore vBuild partsD fillD fillE placesD vRow vBuildSlice srcD vAppend vMakeSlice boundD vSlice vLen vUn vBin strBin intBin eqCell eqFieldsD vConv vMinMax vMakeMap keyV keyKind vLookup lookupD vMapUpdate vCall vCallee vBuiltin evD getT setT setO look putS delS cellsD oneD constD loadD overD onSome_some enumT guardD condD vRes packD subD subL newOf freeL free free.freeL weakT weakS leT leS optLe LeD.self LeO.self LeL.self
end Go.Abs
