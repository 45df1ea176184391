/- An abstract walk over the model: what a function does, as a computation on described values; proved once for all functions. -/
import Derived.Test.YtjgooecohepkoaaGreatDoorEAI
set_option linter.unusedVariables false
set_option linter.unusedSimpArgs false
namespace Go.Abs
open Go

theorem oldOf_none_of {r : List (Nat × Nat)} {n o : Nat} (h : (r.all fun x => !Nat.beq x.1 n && !Nat.beq x.2 o) = true) : oldOf r n = none := by
  cases he : oldOf r n with
  | none => rfl
  | some q =>
    have := oldOf_mem he
    simp only [List.all_eq_true] at h
    have h1 := h _ this
    simp at h1
theorem look_subS_eq {m : List (Nat × Nat)} {S : Store} {n : Nat} : ∀ {r : List (Nat × Nat)}, injB r = true → look (subS m S r) n = (oldOf r n).bind fun o => (look S o).map (subO (newOf m))
  | [], _ => rfl
  | (a, b) :: r, hi => by
    simp only [injB, Bool.and_eq_true] at hi
    have ih := look_subS_eq (m := m) (S := S) (n := n) hi.2
    simp only [subS, oldOf]
    by_cases hn : a = n
    · subst hn
      rw [oldOf_none_of hi.1] at ih
      cases hb : look S b with
      | none => simpa [hb] using ih
      | some ob => simp [look, hb]
    · cases hb : look S b with
      | none => simpa [hn] using ih
      | some ob => simpa [look, hn] using ih

def preOf (m : List (Nat × Nat)) (pre : Store) (n : Nat) : Option Nat := (oldOf m n).bind (idP pre)
theorem idP_some {pre : Store} {l l' : Nat} (h : idP pre l = some l') : l' = l ∧ (look pre l).isSome = true := by
  unfold idP at h
  split at h
  · rename_i hl; cases h; exact ⟨rfl, hl⟩
  · cases h

/-- The same under other names. -/
theorem FnOK.ren {Y : Sy} {k : Nat} {args args' : List D} {pre post : Store} {d : D} (m : List (Nat × Nat)) (h : FnOK Y k args pre d post) (hi : injB m = true)
    (hargs : subL (preOf m pre) args' = args) (hS : mapS (fun o => subO (preOf m pre) (subO (newOf m) o)) pre = pre) (hm : ((pre ++ post).all fun x => (newOf m x.1).isSome) = true) :
    FnOK Y k args' (subS m pre m) (subD (newOf m) d) (subS m post m) := by
  refine ⟨h.1, fun E w g vs hr hvs hs hfresh => ?_⟩
  simp only [List.all_append, Bool.and_eq_true, List.all_eq_true] at hm
  obtain ⟨hmp, hmq⟩ := hm
  have hlp : ∀ n, look (subS m pre m) n = (oldOf m n).bind fun o => (look pre o).map (subO (newOf m)) := fun n => look_subS_eq hi
  have hlq : ∀ n, look (subS m post m) n = (oldOf m n).bind fun o => (look post o).map (subO (newOf m)) := fun n => look_subS_eq hi
  have hno : ∀ {n o}, oldOf m n = some o → newOf m o = some n := fun h => newOf_of hi (oldOf_mem h)
  have hon : ∀ {n o}, newOf m o = some n → oldOf m n = some o := fun h => oldOf_of hi (newOf_mem h)
  let g1 : G := ⟨g.Z, fun o => if (look pre o).isSome then (newOf m o).bind g.φ else none⟩
  have hg1 : ∀ {o p}, g1.φ o = some p → ∃ n, newOf m o = some n ∧ g.φ n = some p ∧ (look pre o).isSome = true := by
    intro o p h
    simp only [g1] at h
    split at h
    · rename_i hl
      cases hn : newOf m o with
      | none => rw [hn] at h; simp at h
      | some n => rw [hn] at h; exact ⟨n, rfl, by simpa using h, hl⟩
    · cases h
  have hθ : ∀ l l' p, preOf m pre l = some l' → g.φ l = some p → g1.φ l' = some p := by
    intro l l' p h1 h2
    unfold preOf at h1
    cases ho : oldOf m l with
    | none => rw [ho] at h1; simp at h1
    | some o =>
      rw [ho] at h1
      simp only [Option.bind_some] at h1
      obtain ⟨rfl, hl⟩ := idP_some h1
      simp only [g1, hl, if_true, hno ho, Option.bind_some, h2]
  have hw1 : WF w g1 := ⟨hr.wf.zlt, fun l b c h => let ⟨n, _, h2, _⟩ := hg1 h; hr.wf.flt n b c h2⟩
  have hprelook : ∀ {o ob}, look pre o = some ob → ∃ n, newOf m o = some n ∧ look (subS m pre m) n = some (subO (newOf m) ob) := by
    intro o ob hl
    have := hmp _ (look_mem hl)
    cases hn : newOf m o with
    | none => simp only [hn] at this; cases this
    | some n => exact ⟨n, rfl, by rw [hlp, hon hn]; simp [hl]⟩
  have hown : ∀ b, ownC g1 (look pre) b → ownC g (look (subS m pre m)) b := by
    rintro b ⟨o, x, ho, hp⟩
    obtain ⟨n, h1, h2, _⟩ := hg1 hp
    cases hl : look pre o with
    | none => exact absurd hl ho
    | some ob =>
      obtain ⟨n', h3, h4⟩ := hprelook hl
      rw [h1] at h3
      cases h3
      exact ⟨n, x, by rw [h4]; simp, h2⟩
  have hz1 : ∀ b, g1.Z b → ¬ ownC g1 (look pre) b := fun b hz ho => hs.own_z b hz (hown b ho)
  let E1 : Env Y := ⟨E.F.plain, E.hF, E.hd, E.hal, 0, w, g1, ownC g1 (look pre), hz1, hw1, fun i => (E.hgl i).tr hr.tr.cl E.wf0.cl E.hz0, none, rfl⟩
  have hs1 : SimS E1 w g1 (look pre) := by
    refine ⟨fun o ob hl => ?_, fun l l' b x x' h1 h2 hne hp hp' => ?_⟩
    · obtain ⟨n, h1, h2⟩ := hprelook hl
      obtain ⟨p, hp, ho, hn⟩ := hs.obj n _ h2
      have hφ : g1.φ o = some p := hθ n o p (by simp [preOf, hon h1, idP, hl]) hp
      have hob : ObjRep w g1 p ob := by
        have h3 := ObjRep.sub (g := g) (g' := g1) (fun _ h => h) hθ ho
        have h4 : look (mapS (fun o => subO (preOf m pre) (subO (newOf m) o)) pre) o = some ob := by rw [hS]; exact hl
        rw [look_mapS, hl] at h4
        simp only [Option.map_some, Option.some.injEq] at h4
        rwa [h4] at h3
      refine ⟨p, hφ, hob, fun b hb => ⟨(hn b hb).1, fun _ => ?_⟩⟩
      obtain ⟨p1, p2⟩ := p
      simp only at hb
      subst hb
      exact ⟨o, p2, by rw [hl]; simp, hφ⟩
    · obtain ⟨n, a1, a2, a3⟩ := hg1 hp
      obtain ⟨n', b1, b2, b3⟩ := hg1 hp'
      have c1 : look (subS m pre m) n ≠ none := by rw [hlp, hon a1]; simp only [Option.bind_some]; cases e : look pre l with | none => rw [e] at a3; cases a3 | some _ => simp
      have c2 : look (subS m pre m) n' ≠ none := by rw [hlp, hon b1]; simp only [Option.bind_some]; cases e : look pre l' with | none => rw [e] at b3; cases b3 | some _ => simp
      refine hs.apart n n' b x x' c1 c2 ?_ a2 b2
      rintro rfl
      have := hon a1
      rw [hon b1] at this
      cases this
      exact hne rfl
  have hargs1 : RepL w g1 vs args := by
    have := RepL.sub (g := g) (g' := g1) (fun _ h => h) hθ hvs
    rwa [hargs] at this
  have hfresh1 : ∀ l, look pre l = none → look post l ≠ none → g1.φ l = none := by
    intro l h1 _
    simp only [g1, h1, Option.isSome_none, Bool.false_eq_true, if_false]
  refine (h.2 E1 w g1 vs ⟨Tr.refl _ _ _, hw1⟩ hargs1 hs1 hfresh1).mono ?_
  rintro e w' ⟨v, g2, rfl, hM, hv⟩
  let g' : G := ⟨g2.Z, fun n => match oldOf m n with | some o => if (look post o).isSome then g2.φ o else g.φ n | none => g.φ n⟩
  have hφo : ∀ {o n}, newOf m o = some n → (look post o).isSome = true → g'.φ n = g2.φ o := by
    intro o n h1 h2
    simp only [g', hon h1, h2, if_true]
  -- what is known under the old names
  have hup : ∀ l l' p, newOf m l = some l' → g2.φ l = some p → g'.φ l' = some p := by
    intro o n p h1 h2
    simp only [g', hon h1]
    split
    · exact h2
    · rename_i hn
      rcases hM.dom o (by rw [h2]; simp) with h3 | h3
      · cases h4 : g1.φ o with
        | none => exact absurd h4 h3
        | some q =>
          have := hM.tr.fmono o q h4
          rw [h2] at this
          cases this
          obtain ⟨n', a1, a2, _⟩ := hg1 h4
          rw [h1] at a1
          cases a1
          exact a2
      · exfalso
        cases h4 : look post o with
        | none => exact h3 h4
        | some _ => rw [h4] at hn; simp at hn
  have hpost : ∀ {n ob}, look (subS m post m) n = some ob → ∃ o ob', newOf m o = some n ∧ look post o = some ob' ∧ ob = subO (newOf m) ob' := by
    intro n ob hl
    rw [hlq] at hl
    cases ho : oldOf m n with
    | none => rw [ho] at hl; simp at hl
    | some o =>
      rw [ho] at hl
      simp only [Option.bind_some, Option.map_eq_some_iff] at hl
      obtain ⟨ob', h1, h2⟩ := hl
      exact ⟨o, ob', hno ho, h1, h2.symm⟩
  have htr : Tr (ownC g (look (subS m pre m))) w g w' g' := by
    refine ⟨hM.tr.os, hM.tr.tape, hM.tr.output, hM.tr.size, fun b hb hn => hM.tr.keep b hb fun ho => hn (hown b ho), hM.tr.zmono, fun b hz hb hn => hM.tr.znew b hz hb fun ho => hn (hown b ho), fun n p hp => ?_, fun n b c hp hn => ?_⟩
    · simp only [g']
      split
      · rename_i o ho
        split
        · rename_i hps
          cases hl : look pre o with
          | some ob => exact hM.tr.fmono o p (by simp only [g1, hl, Option.isSome_some, if_true, hno ho, Option.bind_some, hp])
          | none =>
            have h1 : look (subS m pre m) n = none := by rw [hlp, ho]; simp [hl]
            have h2 : look (subS m post m) n ≠ none := by
              rw [hlq, ho]
              cases e : look post o with
              | none => rw [e] at hps; cases hps
              | some _ => simp [e]
            have := hfresh n h1 h2
            rw [hp] at this; cases this
        · exact hp
      · exact hp
    · simp only [g'] at hp
      split at hp
      · rename_i o ho
        split at hp
        · rcases hM.tr.fnew o b c hp (by
            simp only [g1]
            split
            · simp [hno ho, hn]
            · rfl) with h1 | h1
          · exact .inl h1
          · exact .inr (hown b h1)
        · rw [hn] at hp; cases hp
      · rw [hn] at hp; cases hp
  have hMove : Move E (look (subS m pre m)) (look (subS m post m)) w g w' g' := by
    refine ⟨htr, ⟨hM.wf.zlt, fun n b c hp => ?_⟩, ⟨fun n ob hl => ?_, fun n n' b x x' h1 h2 hne hp hp' => ?_⟩, fun n hn => ?_⟩
    · simp only [g'] at hp
      split at hp
      · split at hp
        · exact hM.wf.flt _ b c hp
        · have := hr.wf.flt n b c hp; have := htr.size; omega
      · have := hr.wf.flt n b c hp; have := htr.size; omega
    · obtain ⟨o, ob', h1, h2, rfl⟩ := hpost hl
      obtain ⟨p, hp, ho, hn⟩ := hM.sim.obj o ob' h2
      refine ⟨p, hup o n p h1 hp, ObjRep.sub (g := g2) (g' := g') (fun _ h => h) hup ho, fun b hb => ⟨(hn b hb).1, fun hlt => ?_⟩⟩
      have hlt' : b < w.heap.size := Nat.lt_of_lt_of_le hlt hr.tr.size
      exact hs.own_own0 b hlt (hown b ((hn b hb).2 hlt'))
    · cases e1 : look (subS m post m) n with
      | none => exact absurd e1 h1
      | some ob =>
        cases e2 : look (subS m post m) n' with
        | none => exact absurd e2 h2
        | some ob2 =>
          obtain ⟨o, ob', a1, a2, _⟩ := hpost e1
          obtain ⟨o2, ob2', b1, b2, _⟩ := hpost e2
          rw [hφo a1 (by rw [a2]; rfl)] at hp
          rw [hφo b1 (by rw [b2]; rfl)] at hp'
          refine hM.sim.apart o o2 b x x' (by rw [a2]; simp) (by rw [b2]; simp) ?_ hp hp'
          rintro rfl
          rw [a1] at b1
          cases b1
          exact hne rfl
    · simp only [g'] at hn
      split at hn
      · rename_i o ho
        split at hn
        · rename_i hps
          refine .inr ?_
          rw [hlq, ho]
          cases e : look post o with
          | none => rw [e] at hps; cases hps
          | some _ => simp [e]
        · exact .inl hn
      · exact .inl hn
  exact ⟨v, g', rfl, hMove, Rep.sub (g := g2) (g' := g') (fun _ h => h) hup hv⟩
/-- A nil slice in a cell of a variable of one's own becomes a row of one's own without elements. -/
theorem Into.nilCell {Y : Sy} {E : Env Y} {st : St} (l i : Nat) {cs : List D} (e : TypeId) (size : Nat) (hl : look st.S l = some (.box cs)) (hc : cs[i]? = some (.v (.slice none 0 0))) :
    Into E st ⟨st.σ, putS ((st.nx, .row e size []) :: st.S) l (.box (cs.set i (.own st.nx 0))), st.nx + 1, st.ds⟩ := fun a w g hs => by
  have hφ : g.φ st.nx = none := by
    cases h : g.φ st.nx with
    | none => rfl
    | some p => have := hs.nm st.nx (by rw [h]; simp); omega
  have hup : ∀ l p, g.φ l = some p → (named g st.nx (none, 0)).φ l = some p := by
    intro l p h
    simp only [named]
    split
    · rename_i e; subst e; rw [hφ] at h; cases h
    · exact h
  have hmono : ∀ {o p}, ObjRep w g p o → ObjRep w (named g st.nx (none, 0)) p o := by
    intro o p ho
    cases o with
    | box cs => obtain ⟨b, arr, t, q1, q2, q3⟩ := ho; exact ⟨b, arr, t, q1, q2, RepL.up (g := g) (g' := named g st.nx (none, 0)) (fun _ h => h) hup q3⟩
    | row e size es =>
      rcases ho with q | ⟨b, arr, q1, q2, q3, q4, q5, q6, q7⟩
      · exact .inl q
      · exact .inr ⟨b, arr, q1, q2, q3, q4, q5, q6, RepE.up (g := g) (g' := named g st.nx (none, 0)) (fun _ h => h) hup q7⟩
    | mp es => obtain ⟨b, arr, clock, q1, q2, q3, q4, q5⟩ := ho; exact ⟨b, arr, clock, q1, q2, q3, RepL.up (g := g) (g' := named g st.nx (none, 0)) (fun _ h => h) hup q4, q5⟩
    | si s pos => exact ho
    | lp s pd σ m ps as bd => obtain ⟨b, r, q1, q2, q3, q4, q5, q6, q7, q8⟩ := ho; exact ⟨b, r, q1, q2, q3, q4, q5, q6, q7, q8.mono fun _ _ h => Rep.up (g := g) (g' := named g st.nx (none, 0)) (fun _ h => h) hup h⟩
  have hlnx : l ≠ st.nx := by
    rintro rfl
    obtain ⟨p, hp, _⟩ := hs.ss.obj _ _ hl
    rw [hφ] at hp
    cases hp
  have hlook : ∀ l', look (putS ((st.nx, .row e size []) :: st.S) l (.box (cs.set i (.own st.nx 0)))) l' = if l = l' then some (.box (cs.set i (.own st.nx 0))) else if st.nx = l' then some (.row e size []) else look st.S l' := by
    intro l'
    rw [look_putS]
    rfl
  refine ⟨named g st.nx (none, 0), ⟨⟨hs.rc.tr.os, hs.rc.tr.tape, hs.rc.tr.output, hs.rc.tr.size, hs.rc.tr.keep, hs.rc.tr.zmono, hs.rc.tr.znew, fun l p h => hup l p (hs.rc.tr.fmono l p h), fun l b c h1 h2 => ?_⟩, ⟨hs.rc.wf.zlt, fun l b c h => ?_⟩⟩, fun u => Rep.up (g := g) (g' := named g st.nx (none, 0)) (fun _ h => h) hup (hs.tm u), ⟨fun l' o h => ?_, fun l1 l2 b x x' h1 h2 hne hp hp' => ?_⟩, hs.sz, hs.df, fun l h => ?_⟩
  · simp only [named] at h1
    split at h1
    · cases h1
    · exact hs.rc.tr.fnew l b c h1 h2
  · simp only [named] at h
    split at h
    · cases h
    · exact hs.rc.wf.flt l b c h
  · rw [hlook] at h
    split at h
    · rename_i el
      subst el
      cases h
      obtain ⟨p, hp, ⟨b, arr, t, q1, q2, q3⟩, hn⟩ := hs.ss.obj l _ hl
      refine ⟨p, hup l p hp, ⟨b, arr, t, q1, q2, ?_⟩, hn⟩
      obtain ⟨x, hx, hrx⟩ := q3.get hc
      have q4 : RepL w (named g st.nx (none, 0)) arr.toList cs := RepL.up (g := g) (g' := named g st.nx (none, 0)) (fun _ h => h) hup q3
      have q5 : Rep w (named g st.nx (none, 0)) x (.own st.nx 0) := by
        simp only [Rep] at hrx ⊢
        exact .inr ⟨by simp [named], by simp, hrx⟩
      have q6 := q4.set i q5
      have e2 : arr.toList.set i x = arr.toList := by
        refine List.ext_getElem? fun j => ?_
        rw [List.getElem?_set]
        split
        · rename_i hj
          subst hj
          rw [hx]
          rw [if_pos (List.getElem?_eq_some_iff.1 hx).1]
        · rfl
      rwa [e2] at q6
    · split at h
      · rename_i _ en
        subst en
        cases h
        exact ⟨(none, 0), by simp [named], .inl ⟨rfl, rfl⟩, by simp⟩
      · obtain ⟨p, hp, ho, hn⟩ := hs.ss.obj l' o h
        exact ⟨p, hup l' p hp, hmono ho, hn⟩
  · simp only [named] at hp hp'
    split at hp
    · cases hp
    · split at hp'
      · cases hp'
      · rename_i e1 e2
        refine hs.ss.apart l1 l2 b x x' ?_ ?_ hne hp hp'
        · rw [hlook] at h1
          intro e
          split at h1
          · rename_i h3; subst h3; rw [hl] at e; cases e
          · rw [if_neg (Ne.symm e1)] at h1; exact h1 e
        · rw [hlook] at h2
          intro e
          split at h2
          · rename_i h3; subst h3; rw [hl] at e; cases e
          · rw [if_neg (Ne.symm e2)] at h2; exact h2 e
  · simp only [named] at h
    show l < st.nx + 1
    split at h
    · omega
    · have := hs.nm l h; omega

/-! ### Calls -/
def newIn (pre : Store) (nx nx' : Nat) : Store → Prop
  | [] => True
  | (l, _) :: r => ((look pre l).isSome = true ∨ (nx ≤ l ∧ l < nx')) ∧ newIn pre nx nx' r
theorem newIn_ok {pre : Store} {nx nx' : Nat} : ∀ {post : Store}, newIn pre nx nx' post → ∀ x ∈ post, look pre x.1 = none → nx ≤ x.1 ∧ x.1 < nx'
  | [], _, x, h, _ => by simp at h
  | (l, o) :: r, hn, x, h, hx => by
    rcases List.mem_cons.1 h with rfl | h
    · rcases hn.1 with h1 | h1
      · simp only at hx; rw [hx] at h1; cases h1
      · exact h1
    · exact newIn_ok hn.2 x h hx
theorem weakS_mem {S : Store} : ∀ {S' : Store}, weakS S S' → ∀ x ∈ S', look S x.1 = some x.2
  | [], _, x, h => by simp at h
  | (l, o) :: r, hw, x, h => by
    rcases List.mem_cons.1 h with rfl | h
    · exact hw.1
    · exact weakS_mem hw.2 x h
theorem callT {Y : Sy} {k : Nat} {args : List D} {S : Store} {nx : Nat} {K : KT} {pre post : Store} {d : D} (h : FnOK Y k args pre d post) (nx' : Nat) (h1 : weakS S pre) (h2 : nx ≤ nx') (h3 : newIn pre nx nx' post)
    (hK : K d (putAll (delAll S (namesL pre)) post) nx' (namesL pre) (namesL post ++ namesL pre)) : CallRes Y k args S nx K :=
  .touch pre d post nx' h ⟨weakS_mem h1, h2, newIn_ok h3⟩ hK
theorem callK {Y : Sy} {k : Nat} {args : List D} {S : Store} {nx : Nat} {K : KT} {pre : Store} {d : D} (h : FnOK Y k args pre d pre) (h1 : weakS S pre) (hK : K d S nx (namesL pre) []) : CallRes Y k args S nx K :=
  .keeps pre d h (weakS_mem h1) hK
theorem callP {Y : Sy} {k : Nat} {args : List D} {S : Store} {nx : Nat} {K : KT} {d : D} (h : FnOK Y k args [] d []) (hK : K d S nx [] []) : CallRes Y k args S nx K := .pure d h hK
attribute [go_sem] List.map_append List.map_map Function.comp_def List.forall_mem_cons List.not_mem_nil implies_true true_or or_true or_self false_or or_false Nat.zero_min newIn putAll delAll namesL subS subO oldOf preOf idP Option.isSome_some Option.isSome_none pickS mapT mapS lend shut lendO
end Go.Abs
namespace Go.Abs
open Go

/-! ### Frozen from now on, what holds no names -/
mutual
def frzD (S : Store) : D → D
  | .own l m => match look S l with
    | some (.row _ size es) => bif decide (m = es.length) then .sl es size else .any
    | some _ => .any
    | none => .own l m
  | .mp l => match look S l with
    | some (.mp es) => .fmp (es.map (·.1)) (es.map (·.2))
    | some _ => .any
    | none => .mp l
  | .ref l off => match look S l with
    | some (.box cs) => .ep (cs.drop off)
    | some _ => .any
    | none => .ref l off
  | .oel l s i j => match look S l with
    | some _ => .any
    | none => .oel l s i j
  | .it l => .it l
  | .yl l => .yl l
  | .fn f a b => .fn f (frzL S a) (frzL S b)
  | .agg cs => .agg (frzL S cs)
  | .tup cs => .tup (frzL S cs)
  | .any => .any
  | .v x => .v x
  | .s l => .s l
  | .sl es n => .sl es n
  | .ep cs => .ep cs
  | .fmp ks ds => .fmp ks ds
def frzL (S : Store) : List D → List D
  | [] => []
  | d :: r => frzD S d :: frzL S r
end
def frzO (S : Store) : AO → AO
  | .box cs => .box (frzL S cs)
  | .row e size es => .row e size (es.map (frzL S))
  | .mp es => .mp (es.map fun x => (x.1, frzD S x.2))
  | .lp s pd σ m ps a b => .lp s pd (mapT (frzD S) σ) m ps a b
  | o => o
def closedO : AO → Prop
  | .box cs => freeL cs = true
  | .row _ _ es => ∀ e ∈ es, freeL e = true
  | .mp es => freeL (es.map (·.2)) = true
  | _ => True
def closedS : Store → Prop
  | [] => True
  | (_, o) :: r => closedO o ∧ closedS r
theorem closedS_look {S : Store} (h : closedS S) {l : Nat} {o : AO} (hl : look S l = some o) : closedO o := by
  induction S with
  | nil => simp [look] at hl
  | cons x r ih =>
    obtain ⟨k, ob⟩ := x
    simp only [look] at hl
    split at hl
    · cases hl; exact h.1
    · exact ih h.2 hl

section
variable {Y : Sy} {E : Env Y} {w : World} {g : G} {S : Store}
theorem frzL_length : ∀ (ds : List D), (frzL S ds).length = ds.length
  | [] => rfl
  | _ :: r => by simp [frzL, frzL_length r]
mutual
theorem Rep.frz (hs : SimS E w g (look S)) (hc : closedS S) : ∀ {x : Value} {d : D}, Rep w g x d → Rep w (gz g S) x (frzD S d)
  | _, .any, _ => by simp [Rep, frzD]
  | _, .v _, hx => by simpa [Rep, frzD] using hx
  | _, .s _, hx => by simpa [Rep, frzD] using hx
  | _, .sl es size, hx => by
    simp only [frzD]
    exact hx.toGz
  | _, .ep cs, hx => by
    simp only [frzD]
    exact hx.toGz
  | _, .fmp ks ds, hx => by
    simp only [frzD]
    exact hx.toGz
  | _, .it l, hx => by
    simp only [frzD]
    exact hx.toGz
  | _, .yl l, hx => by
    simp only [frzD]
    exact hx.toGz
  | _, .oel l s i j, hx => by
    simp only [frzD]
    cases look S l with
    | none => exact hx.toGz
    | some o => simp [Rep]
  | _, .own l m, hx => by
    simp only [frzD]
    cases hl : look S l with
    | none => exact hx.toGz
    | some o =>
      cases o with
      | row e size es =>
        simp only
        cases hm : decide (m = es.length) with
        | false => simp [Rep]
        | true =>
          simp only [cond_true]
          have hm' : m = es.length := of_decide_eq_true hm
          subst hm'
          obtain ⟨⟨p, pc⟩, hp, ho, _⟩ := hs.obj l _ hl
          have hcl := closedS_look hc hl
          simp only [Rep] at hx ⊢
          rcases hx with ⟨b, c, hφ, hn, rfl⟩ | ⟨hφ, hn, rfl⟩
          · rw [hp] at hφ
            cases hφ
            rcases ho with ⟨h1, _⟩ | ⟨b', arr, h1, h2, h3, h4, h5, h6, h7⟩
            · cases h1
            · cases h1
              have h8 : RepE w (gz g S).cl ⟨b, 0, none⟩ size 0 es := RepE.toCl hcl (RepE.up (g := g) (g' := gz g S) (fun _ h => .inl h) (fun _ _ h => h) h7)
              exact ⟨some ⟨b, 0, none⟩, pc, rfl, hn, h4, h6, fun _ => ⟨_, rfl, .inr ⟨l, pc, by simp [hl], hp⟩, h8⟩⟩
          · have h9 := List.eq_nil_of_length_eq_zero hn
            subst h9
            exact ⟨none, 0, rfl, by simp, by unfold maxLen; omega, by simp, by simp⟩
      | _ => simp [Rep]
  | _, .mp l, hx => by
    simp only [frzD]
    cases hl : look S l with
    | none => exact hx.toGz
    | some o =>
      cases o with
      | mp es =>
        simp only
        obtain ⟨⟨p, pc⟩, hp, ho, _⟩ := hs.obj l _ hl
        have hcl := closedS_look hc hl
        simp only [Rep] at hx ⊢
        obtain ⟨b, c, hφ, rfl⟩ := hx
        rw [hp] at hφ
        cases hφ
        obtain ⟨b', arr, clock, h1, h2, h3, h4, h5, h6⟩ := ho
        cases h1
        have h8 : RepL w (gz g S).cl (arr.toList.map (·.val)) (es.map (·.2)) := RepL.toCl hcl (RepL.up (g := g) (g' := gz g S) (fun _ h => .inl h) (fun _ _ h => h) h4)
        exact ⟨b, arr, clock, rfl, .inr ⟨l, pc, by simp [hl], hp⟩, h2, h3, h8, h5, h6⟩
      | _ => simp [Rep]
  | _, .ref l off, hx => by
    simp only [frzD]
    cases hl : look S l with
    | none => exact hx.toGz
    | some o =>
      cases o with
      | box cs =>
        simp only
        obtain ⟨⟨p, pc⟩, hp, ho, _⟩ := hs.obj l _ hl
        have hcl := closedS_look hc hl
        simp only [Rep] at hx ⊢
        obtain ⟨b, c, hφ, rfl⟩ := hx
        rw [hp] at hφ
        cases hφ
        obtain ⟨b', arr, t, h1, h2, h3⟩ := ho
        cases h1
        have h8 : RepL w (gz g S).cl arr.toList cs := RepL.toCl hcl (RepL.up (g := g) (g' := gz g S) (fun _ h => .inl h) (fun _ _ h => h) h3)
        exact ⟨_, arr.toList.drop off, rfl, .inr ⟨l, pc, by simp [hl], hp⟩, cellsAt_block h2 off, h8.drop off⟩
      | _ => simp [Rep]
  | _, .fn _ _ _, hx => by
    simp only [Rep, frzD] at hx ⊢
    obtain ⟨v1, v2, rfl, h1, h2⟩ := hx
    exact ⟨v1, v2, rfl, RepL.frz hs hc h1, RepL.frz hs hc h2⟩
  | _, .agg _, hx => by
    simp only [Rep, frzD] at hx ⊢
    obtain ⟨v1, rfl, h1⟩ := hx
    exact ⟨v1, rfl, RepL.frz hs hc h1⟩
  | _, .tup _, hx => by
    simp only [Rep, frzD] at hx ⊢
    obtain ⟨v1, rfl, h1⟩ := hx
    exact ⟨v1, rfl, RepL.frz hs hc h1⟩
theorem RepL.frz (hs : SimS E w g (look S)) (hc : closedS S) : ∀ {xs : List Value} {ds : List D}, RepL w g xs ds → RepL w (gz g S) xs (frzL S ds)
  | [], [], _ => by simp [RepL, frzL]
  | [], _ :: _, hx => by simp [RepL] at hx
  | _ :: _, [], hx => by simp [RepL] at hx
  | x :: xs, d :: ds, hx => by
    simp only [RepL, frzL] at hx ⊢
    exact ⟨Rep.frz hs hc hx.1, RepL.frz hs hc hx.2⟩
end
theorem RepE.frz (hs : SimS E w g (look S)) (hc : closedS S) {ad : Addr} {size : Nat} : ∀ {k : Nat} {es : List (List D)}, RepE w g ad size k es → RepE w (gz g S) ad size k (es.map (frzL S))
  | _, [], _ => by simp [RepE]
  | k, e :: r, hx => by
    simp only [RepE, List.map_cons] at hx ⊢
    obtain ⟨⟨vs, hv, hl⟩, hr⟩ := hx
    exact ⟨⟨vs, hv, hl.frz hs hc⟩, hr.frz hs hc⟩
theorem ObjRep.frz (hs : SimS E w g (look S)) (hc : closedS S) {p : Option Nat × Nat} : ∀ {o : AO}, ObjRep w g p o → ObjRep w (gz g S) p (frzO S o)
  | .box cs, ⟨b, arr, t, h1, h2, h3⟩ => ⟨b, arr, t, h1, h2, h3.frz hs hc⟩
  | .row e size es, h => by
    rcases h with ⟨h1, rfl⟩ | ⟨b, arr, h1, h2, h3, h4, h5, h6, h7⟩
    · exact .inl ⟨h1, rfl⟩
    · refine .inr ⟨b, arr, h1, h2, by simpa using h3, h4, h5, ?_, h7.frz hs hc⟩
      intro e he
      obtain ⟨e', he', rfl⟩ := List.mem_map.1 he
      rw [frzL_length]; exact h6 e' he'
  | .mp es, ⟨b, arr, clock, h1, h2, h3, h4, h5⟩ => by
    refine ⟨b, arr, clock, h1, h2, by simpa [Function.comp_def] using h3, ?_, h5⟩
    have := h4.frz hs hc
    have e : frzL S (es.map (·.2)) = (es.map fun x => (x.1, frzD S x.2)).map (·.2) := by
      clear h3 h4 this
      induction es with
      | nil => rfl
      | cons x r ih => simp [frzL, ih]
    rw [e] at this
    exact this
  | .si s pos, h => h
  | .lp _ _ _ _ _ _ _, ⟨b, r, q1, q2, q3, q4, q5, q6, q7, q8⟩ => ⟨b, r, q1, q2, q3, q4, q5, q6, q7, q8.mapT fun _ _ h => h.frz hs hc⟩
end

theorem Into.frz {Y : Sy} {E : Env Y} {st : St} (L : List Nat) (hc : closedS (pickS st.S L)) : Into E st ⟨mapT (frzD (pickS st.S L)) st.σ, mapS (frzO (pickS st.S L)) (delAll st.S L), st.nx, st.ds⟩ := fun a w g hs => by
  have hsub : SimS E w g (look (pickS st.S L)) := hs.ss.sub fun l o h => by
    rw [look_pickS] at h
    split at h
    · exact h
    · cases h
  refine ⟨gz g (pickS st.S L), ⟨⟨hs.rc.tr.os, hs.rc.tr.tape, hs.rc.tr.output, hs.rc.tr.size, hs.rc.tr.keep, fun b h => .inl (hs.rc.tr.zmono b h), fun b h h1 h2 => ?_, hs.rc.tr.fmono, hs.rc.tr.fnew⟩, wf_gz hs.rc.wf⟩, fun t => ?_, ⟨fun l o h => ?_, fun l l' b x x' h1 h2 => ?_⟩, hs.sz, hs.df.up (fun _ h => .inl h), hs.nm⟩
  · rcases h with h | h
    · exact hs.rc.tr.znew b h h1 h2
    · exact absurd (hsub.own_own0 b h1 h) h2
  · rcases getT_mapT (f := frzD (pickS st.S L)) (σ := st.σ) (t := t) with h | h
    · simp only [h]; exact (hs.tm t).frz hsub hc
    · simp only [h]; simp [Rep]
  · rw [look_mapS] at h
    simp only [Option.map_eq_some_iff] at h
    obtain ⟨o0, h, rfl⟩ := h
    rw [look_delAll] at h
    split at h
    · cases h
    · rename_i hL
      obtain ⟨p, hp, ho, hn⟩ := hs.ss.obj l o0 h
      refine ⟨p, hp, ho.frz hsub hc, fun b hb => ⟨fun hz => ?_, (hn b hb).2⟩⟩
      rcases hz with hz | ⟨l', x, h1, h2⟩
      · exact (hn b hb).1 hz
      · obtain ⟨p1, p2⟩ := p
        simp only at hb
        subst hb
        have hL' : l' ∈ L := by
          rw [look_pickS] at h1
          split at h1
          · assumption
          · exact absurd rfl h1
        have hne : l ≠ l' := by rintro rfl; exact hL hL'
        refine hs.ss.apart l l' b p2 x (by rw [h]; simp) ?_ hne hp h2
        rw [look_pickS, if_pos hL'] at h1
        exact h1
  · refine hs.ss.apart l l' b x x' ?_ ?_
    · intro e
      rw [look_mapS, look_delAll, e] at h1
      simp at h1
    · intro e
      rw [look_mapS, look_delAll, e] at h2
      simp at h2
attribute [go_sem] frzD frzL frzO closedO closedS decide_true
end Go.Abs
