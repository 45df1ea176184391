/- An abstract walk over the model: what a function does, as a computation on described values; proved once for all functions. -/
import Derived.Test.YtjgooecohepkoaaGreatDoorEAL
import Derived.LoopNIn
set_option linter.unusedVariables false
set_option linter.unusedSimpArgs false
namespace Go.Abs
set_option linter.unusedSimpArgs false
open Go

/-! ### A region, carried out -/
noncomputable def insT : List (Nat × D) → Nat → D → List (Nat × D)
  | [], t, d => [(t, d)]
  | (u, e) :: r, t, d => match Nat.beq u t with | true => (t, d) :: r | false => (u, e) :: insT r t d
noncomputable def insO (σ : List (Nat × D)) (dst : Option Nat) (d : D) : List (Nat × D) := match dst with | some t => insT σ t d | none => σ
theorem getT_insT (t : Nat) (d : D) (u : Nat) : ∀ σ, getT (insT σ t d) u = if t = u then d else getT σ u
  | [] => by simp [insT, getT]
  | (v, e) :: r => by
    simp only [insT]
    cases h : Nat.beq v t with
    | true =>
      have := Nat.eq_of_beq_eq_true h
      subst this
      simp only [getT]
      split <;> rfl
    | false =>
      simp only [getT, getT_insT t d u r]
      have hne : v ≠ t := by intro e; subst e; simp at h
      by_cases h1 : v = u
      · subst h1
        rw [if_pos rfl, if_neg (Ne.symm hne), if_pos rfl]
      · rw [if_neg h1, if_neg h1]
theorem getT_insO (σ : List (Nat × D)) (dst : Option Nat) (d : D) (u : Nat) : getT (insO σ dst d) u = if dst = some u then d else getT σ u := by
  cases dst with
  | none => simp [insO]
  | some t => simp [insO, getT_insT]
theorem evD_ext {gl : Nat → D} {σ σ' : List (Nat × D)} (h : ∀ t, getT σ t = getT σ' t) : evD gl σ = evD gl σ' := by
  funext x
  cases x <;> simp [evD, h]

section
variable (T : Nat → Option TI) (gl : Nat → D) (call yl : Nat → List D → Store → Nat → Option XC) (N : Nat) (ops : Array Oper) (draw : Bool)
noncomputable def xops : List Oper → List (Nat × D) → Store → Nat → List Sk → Option (List (Nat × D) × Store × Nat)
  | [], σ, S, nx, acc => whn (chk N ops draw acc) (some (σ, S, nx))
  | o :: r, σ, S, nx, acc => match o.guard with
    | none => match xop T call yl (evB gl σ) o.op S nx with
      | some (d, S', nx', ls, ws) => xops r (insO σ o.dst d) S' nx' (⟨gTmp ops o ++ opTmps o, ls, o.dst.toList, ws⟩ :: acc)
      | none => none
    | some (j, b) => match gDst ops j with
      | none => none
      | some t => match getB σ t with
        | .v (.bool q) => match q == b with
          | true => match xop T call yl (evB gl σ) o.op S nx with
            | some (d, S', nx', ls, ws) => xops r (insO σ o.dst d) S' nx' (⟨gTmp ops o ++ opTmps o, ls, o.dst.toList, ws⟩ :: acc)
            | none => none
          | false => xops r (insO σ o.dst (.v (.tuple #[]))) S nx (⟨gTmp ops o, [], o.dst.toList, []⟩ :: acc)
        | .v (.tuple vs) => match vs.toList with | _ :: _ => none | [] => xops r (insO σ o.dst (.v (.tuple #[]))) S nx (⟨gTmp ops o, [], o.dst.toList, []⟩ :: acc)
        | _ => none
end
theorem fzOf_nil (o : Oper) : fzOf [] o = false := by unfold fzOf; split <;> rfl
theorem xops_ok {Y : Sy} {E : Env Y} {call yl : Nat → List D → Store → Nat → Option XC} (hc : CallOK Y call) (hy : YlOK Y yl) {N : Nat} {ops : Array Oper} {draw : Bool} {K : RT} : ∀ {r : List Oper} {σ σv : List (Nat × D)} {S : Store} {nx : Nat} {acc : List Sk} {σ' : List (Nat × D)} {S' : Store} {nx' : Nat},
    xops Y.T Y.gl call yl N ops draw r σ S nx acc = some (σ', S', nx') → (∀ t, getT σv t = getT σ t) → (∀ σv', (∀ t, getT σv' t = getT σ' t) → K σv' S' nx') → vops E N [] ops draw K r σv S nx acc
  | [], σ, σv, S, nx, acc, σ', S', nx', h, he, hK => by
    simp only [xops, whn_some, Option.some.injEq, Prod.mk.injEq] at h
    obtain ⟨h1, rfl, rfl, rfl⟩ := h
    exact ⟨h1, hK σv he⟩
  | o :: r, σ, σv, S, nx, acc, σ', S', nx', h, he, hK => by
    have ext : ∀ (σv1 : List (Nat × D)) d, (∀ t, getT σv1 t = getT σ t) → ∀ t, getT (setO σv1 o.dst d) t = getT (insO σ o.dst d) t := by
      intro σv1 d h t
      rw [getT_setO, getT_insO, h]
    unfold xops at h
    simp only [getB_eq, evB_eq] at h
    unfold vops
    rw [fzOf_nil]
    split at h
    · rename_i hg
      simp only [hg]
      split at h
      · rename_i d S1 nx1 ls ws hx
        rw [← evD_ext he] at hx
        exact xop_ok hc hy hx (xops_ok hc hy h (ext _ d he) hK)
      · cases h
    · rename_i j b hg
      simp only [hg]
      split at h
      · cases h
      · rename_i t ht
        refine ⟨t, ht, ?_⟩
        split at h
        · rename_i q hq
          refine .inr ⟨q, by rw [he]; exact hq, ?_⟩
          split at h
          · rename_i hqb
            have hqb' : q = b := by simpa using hqb
            subst hqb'
            refine ⟨fun _ => ?_, fun e => by cases q <;> simp at e⟩
            have he' : ∀ u, getT (setT σv t (.v (.bool q))) u = getT σ u := by
              intro u
              rw [getT_setT]
              split
              · rename_i e; subst e; exact hq.symm
              · exact he u
            split at h
            · rename_i d S1 nx1 ls ws hx
              rw [← evD_ext he'] at hx
              exact xop_ok hc hy hx (xops_ok hc hy h (ext _ d he') hK)
            · cases h
          · rename_i hqb
            have hqb' : q = !b := by cases q <;> cases b <;> simp_all
            subst hqb'
            refine ⟨fun e => by cases b <;> simp at e, fun _ => ?_⟩
            have he' : ∀ u, getT (setT σv t (.v (.bool !b))) u = getT σ u := by
              intro u
              rw [getT_setT]
              split
              · rename_i e; subst e; exact hq.symm
              · exact he u
            exact xops_ok hc hy h (ext _ _ he') hK
        · rename_i vs hq
          split at h
          · cases h
          · rename_i hvs
            have hvs' : vs = #[] := Array.toList_eq_nil_iff.1 hvs
            subst hvs'
            exact .inl ⟨by rw [he]; exact hq, xops_ok hc hy h (ext _ _ he) hK⟩
        · cases h

/-! ### Loops, round by round -/
def WR {Y : Sy} (E : Env Y) (c : Code) (Q : Exit → St → Prop) : Nat → St → Prop
  | 0, _ => False
  | m + 1, st => W E c st (thenQ (WR E c Q m) Q)
theorem WR.into {Y : Sy} {E : Env Y} {c : Code} {Q : Exit → St → Prop} {m : Nat} {st st' : St} (hi : Into E st st') (h : WR E c Q m st') : WR E c Q m st := by
  cases m with
  | zero => exact h.elim
  | succ m => exact W.into hi h
theorem W.rounds {Y : Sy} {E : Env Y} {c : Code} {Q : Exit → St → Prop} {m : Nat} {st : St} (h : WR E c Q m st) : W E (.loop c) st Q := fun a w g hs => by
  refine wpIn_loop_rounds m ?_
  induction m generalizing st a w g with
  | zero => exact h.elim
  | succ m ih =>
    refine wpIn_mono (h a w g hs) ?_
    rintro e a' w' ⟨st', g', q, s⟩
    cases e with
    | normal => exact ih q a' w' g' s
    | _ => exact ⟨st', g', q, s⟩
end Go.Abs
namespace Go.Abs
open Go

/-! ### Names that are reached -/
mutual
def nmD : D → List Nat → List Nat
  | .ref l _, a => l :: a
  | .oel l _ _ _, a => l :: a
  | .own l _, a => l :: a
  | .mp l, a => l :: a
  | .it l, a => l :: a
  | .yl l, a => l :: a
  | .fn _ x y, a => nmL x (nmL y a)
  | .agg cs, a => nmL cs a
  | .tup cs, a => nmL cs a
  | _, a => a
def nmL : List D → List Nat → List Nat
  | [], a => a
  | d :: r, a => nmD d (nmL r a)
end
def nmO : AO → List Nat → List Nat
  | .box cs, a => nmL cs a
  | .row _ _ es, a => es.foldr (fun e a => nmL e a) a
  | .mp es, a => es.foldr (fun e a => nmD e.2 a) a
  | .lp _ _ σ _ _ _ _, a => σ.foldr (fun e a => nmD e.2 a) a
  | _, a => a
def memB (l : Nat) : List Nat → Bool
  | [] => false
  | x :: r => match Nat.beq x l with | true => true | false => memB l r
def reach : Nat → Store → List Nat → List Nat → List Nat
  | 0, _, _, seen => seen
  | _ + 1, _, [], seen => seen
  | f + 1, S, l :: todo, seen => match memB l seen with
    | true => reach f S todo seen
    | false => match look S l with
      | none => reach f S todo seen
      | some o => reach f S (nmO o todo) (l :: seen)

/-! ### What names nothing that is there is forgotten -/
def Idt (θ : Nat → Option Nat) : Prop := ∀ l l', θ l = some l' → l' = l
theorem idt_idP (pre : Store) : Idt (idP pre) := fun _ _ h => (idP_some h).1
section
variable {θ : Nat → Option Nat}
theorem rep_idt (h : Idt θ) {w : World} {g : G} {x : Value} {d : D} (hx : Rep w g x d) : Rep w g x (subD θ d) := Rep.sub (g := g) (g' := g) (fun _ h => h) (fun l l' p h1 h2 => by rw [h l l' h1]; exact h2) hx
theorem repL_idt (h : Idt θ) {w : World} {g : G} {x : List Value} {d : List D} (hx : RepL w g x d) : RepL w g x (subL θ d) := RepL.sub (g := g) (g' := g) (fun _ h => h) (fun l l' p h1 h2 => by rw [h l l' h1]; exact h2) hx
theorem obj_idt (h : Idt θ) {w : World} {g : G} {p : Option Nat × Nat} {o : AO} (hx : ObjRep w g p o) : ObjRep w g p (subO θ o) := ObjRep.sub (g := g) (g' := g) (fun _ h => h) (fun l l' p h1 h2 => by rw [h l l' h1]; exact h2) hx
mutual
theorem subD_idem (h : Idt θ) : ∀ d : D, subD θ (subD θ d) = subD θ d
  | .ref l off => by cases e : θ l with | none => simp [subD, e] | some l' => have := h l l' e; subst this; simp [subD, e]
  | .oel l _ _ _ => by cases e : θ l with | none => simp [subD, e] | some l' => have := h l l' e; subst this; simp [subD, e]
  | .own l _ => by cases e : θ l with | none => simp [subD, e] | some l' => have := h l l' e; subst this; simp [subD, e]
  | .mp l => by cases e : θ l with | none => simp [subD, e] | some l' => have := h l l' e; subst this; simp [subD, e]
  | .it l => by cases e : θ l with | none => simp [subD, e] | some l' => have := h l l' e; subst this; simp [subD, e]
  | .yl l => by cases e : θ l with | none => simp [subD, e] | some l' => have := h l l' e; subst this; simp [subD, e]
  | .fn f a b => by simp only [subD, subL_idem h a, subL_idem h b]
  | .agg cs => by simp only [subD, subL_idem h cs]
  | .tup cs => by simp only [subD, subL_idem h cs]
  | .any => rfl
  | .v _ => rfl
  | .s _ => rfl
  | .sl _ _ => rfl
  | .ep _ => rfl
  | .fmp _ _ => rfl
theorem subL_idem (h : Idt θ) : ∀ ds : List D, subL θ (subL θ ds) = subL θ ds
  | [] => rfl
  | d :: r => by simp only [subL, subD_idem h d, subL_idem h r]
end
theorem subO_idem (h : Idt θ) (o : AO) : subO θ (subO θ o) = subO θ o := by
  cases o with
  | box cs => simp only [subO, subL_idem h]
  | row e size es => simp only [subO, List.map_map, Function.comp_def, subL_idem h]
  | mp es => simp only [subO, List.map_map, Function.comp_def, subD_idem h]
  | lp s pd σ n ps a b => simp only [subO, mapT, List.map_map, Function.comp_def, subD_idem h]
  | si s pos => rfl
end
theorem idP_mapS (f : AO → AO) (S : Store) : idP (mapS f S) = idP S := by
  funext l
  simp only [idP, look_mapS, Option.isSome_map]
def san (pre : Store) : Store := mapS (subO (idP pre)) pre
theorem san_san (pre : Store) : mapS (subO (idP (san pre))) (san pre) = san pre := by
  unfold san
  rw [idP_mapS]
  simp only [mapS, List.map_map, Function.comp_def, subO_idem (idt_idP pre)]
theorem san_args (pre : Store) (args : List D) : subL (idP (san pre)) (subL (idP pre) args) = subL (idP pre) args := by
  unfold san
  rw [idP_mapS]
  exact subL_idem (idt_idP pre) args
theorem look_san (pre : Store) (l : Nat) : look (san pre) l = (look pre l).map (subO (idP pre)) := look_mapS
theorem sim_san {Y : Sy} {E : Env Y} {w : World} {g : G} {pre : Store} (hs : SimS E w g (look pre)) : SimS E w g (look (san pre)) := by
  refine ⟨fun l o h => ?_, fun l l' b x x' h1 h2 => hs.apart l l' b x x' ?_ ?_⟩
  · rw [look_san] at h
    simp only [Option.map_eq_some_iff] at h
    obtain ⟨o0, h1, rfl⟩ := h
    obtain ⟨p, hp, ho, hn⟩ := hs.obj l o0 h1
    exact ⟨p, hp, obj_idt (idt_idP pre) ho, hn⟩
  · rw [look_san] at h1; intro e; rw [e] at h1; simp at h1
  · rw [look_san] at h2; intro e; rw [e] at h2; simp at h2
theorem san_none {pre : Store} {l : Nat} : look (san pre) l = none ↔ look pre l = none := by rw [look_san]; simp
theorem ownC_san {g : G} {pre : Store} : ownC g (look (san pre)) = ownC g (look pre) := by
  funext b
  simp only [ownC, ne_eq, san_none]
theorem move_san {Y : Sy} {E : Env Y} {w w' : World} {g g' : G} {pre post : Store} (h : Move E (look (san pre)) (look post) w g w' g') : Move E (look pre) (look post) w g w' g' :=
  ⟨by have := h.tr; rwa [ownC_san] at this, h.wf, h.sim, h.dom⟩
theorem FnOK.san {Y : Sy} {k : Nat} {args : List D} {pre post : Store} {d : D} (h : FnOK Y k (subL (idP pre) args) (Abs.san pre) d post) : FnOK Y k args pre d post := by
  refine ⟨h.1, fun E w g vs hr hvs hs hf => ?_⟩
  refine (h.2 E w g vs hr (repL_idt (idt_idP pre) hvs) (sim_san hs) (fun l h1 h2 => hf l (san_none.1 h1) h2)).mono ?_
  rintro e w' ⟨v, g', rfl, hm, hv⟩
  exact ⟨v, g', rfl, move_san hm, hv⟩
theorem RdOK.san {Y : Sy} {l : Nat} {args : List D} {pre post : Store} {d : D} (h : RdOK Y l (subL (idP pre) args) (Abs.san pre) d post) : RdOK Y l args pre d post := by
  intro E w g vs hr hvs hs hf
  obtain ⟨b, c, fn, tmps, as, bd, h1, h2, h3⟩ := h E w g vs hr (repL_idt (idt_idP pre) hvs) (sim_san hs) (fun l h1 h2 => hf l (san_none.1 h1) h2)
  refine ⟨b, c, fn, tmps, as, bd, h1, h2, h3.mono ?_⟩
  rintro e w' ⟨v, g', rfl, hm, hv⟩
  exact ⟨v, g', rfl, move_san hm, hv⟩

theorem weakS_of {S : Store} : ∀ {S' : Store}, (∀ x ∈ S', look S x.1 = some x.2) → weakS S S'
  | [], _ => trivial
  | (l, o) :: r, h => ⟨h (l, o) (by simp), weakS_of fun x hx => h x (by simp [hx])⟩
theorem mem_subS {m : List (Nat × Nat)} {S : Store} {x : Nat × AO} : ∀ {r : List (Nat × Nat)}, x ∈ subS m S r → ∃ o ob, (x.1, o) ∈ r ∧ look S o = some ob ∧ x.2 = subO (newOf m) ob
  | [], h => by simp [subS] at h
  | (n, o) :: r, h => by
    simp only [subS] at h
    split at h
    · rename_i ob hob
      rcases List.mem_cons.1 h with rfl | h
      · exact ⟨o, ob, by simp, hob, rfl⟩
      · obtain ⟨o', ob', h1, h2, h3⟩ := mem_subS h
        exact ⟨o', ob', by simp [h1], h2, h3⟩
    · obtain ⟨o', ob', h1, h2, h3⟩ := mem_subS h
      exact ⟨o', ob', by simp [h1], h2, h3⟩
theorem weakS_sub {m : List (Nat × Nat)} {S : Store} (hi : injB m = true) : weakS (subS m S m) (subS m S m) := weakS_of fun x hx => by
  obtain ⟨o, ob, h1, h2, h3⟩ := mem_subS hx
  rw [look_subS_eq hi, oldOf_of hi h1, h3]
  simp [h2]
theorem pickS_ok (S : Store) : ∀ (L : List Nat), ∀ x ∈ pickS S L, look S x.1 = some x.2
  | [], x, h => by simp [pickS] at h
  | l :: r, x, h => by
    simp only [pickS] at h
    split at h
    · rename_i o ho
      rcases List.mem_cons.1 h with rfl | h
      · exact ho
      · exact pickS_ok S r x h
    · exact pickS_ok S r x h
end Go.Abs
namespace Go.Abs
set_option linter.unusedSimpArgs false
open Go

/-! ### Data made plain before they are handed on (the kernel computes by name) -/
section
variable {β : Type}
noncomputable def frcN (n : Nat) (k : Nat → β) : β := match n with | 0 => k 0 | .succ m => k (.succ m)
noncomputable def frcI (z : Int) (k : Int → β) : β := match z with | .ofNat n => frcN n fun n => k (.ofNat n) | .negSucc n => frcN n fun n => k (.negSucc n)
noncomputable def frcV (v : Value) (k : Value → β) : β := match v with
  | .int t z => frcI z fun z => k (.int t z)
  | .bool true => k (.bool true)
  | .bool false => k (.bool false)
  | v => k v
noncomputable def frcL {α : Type} (f : α → (α → β) → β) : List α → (List α → β) → β
  | [], k => k []
  | x :: r, k => f x fun x => frcL f r fun r => k (x :: r)
mutual
noncomputable def frcD : D → (D → β) → β
  | .v x, k => frcV x fun x => k (.v x)
  | .s l, k => frcL (fun b k => k b) l fun l => k (.s l)
  | .sl es n, k => frcL (fun b k => k b) es fun es => k (.sl es n)
  | .ep cs, k => frcL (fun b k => k b) cs fun cs => k (.ep cs)
  | .ref l i, k => frcN l fun l => frcN i fun i => k (.ref l i)
  | .oel l s i j, k => frcN l fun l => frcN s fun s => frcN i fun i => frcN j fun j => k (.oel l s i j)
  | .own l n, k => frcN l fun l => frcN n fun n => k (.own l n)
  | .mp l, k => frcN l fun l => k (.mp l)
  | .it l, k => frcN l fun l => k (.it l)
  | .yl l, k => frcN l fun l => k (.yl l)
  | .fn f a b, k => frcDs a fun a => frcDs b fun b => k (.fn f a b)
  | .agg cs, k => frcDs cs fun cs => k (.agg cs)
  | .tup cs, k => frcDs cs fun cs => k (.tup cs)
  | .any, k => k .any
  | .fmp a b, k => k (.fmp a b)
noncomputable def frcDs : List D → (List D → β) → β
  | [], k => k []
  | d :: r, k => frcD d fun d => frcDs r fun r => k (d :: r)
end
noncomputable def frcT (σ : List (Nat × D)) (k : List (Nat × D) → β) : β := frcL (fun x k => k x) σ k
noncomputable def frcTD (σ : List (Nat × D)) (k : List (Nat × D) → β) : β := frcL (fun x k => frcN x.1 fun a => frcD x.2 fun b => k (a, b)) σ k
noncomputable def frcO (o : AO) (k : AO → β) : β := match o with
  | .box cs => frcDs cs fun cs => k (.box cs)
  | .row e n es => frcN n fun n => frcL frcDs es fun es => k (.row e n es)
  | .mp es => frcL (fun x k => frcD x.2 fun b => k (x.1, b)) es fun es => k (.mp es)
  | .lp s p σ n ps a b => frcTD σ fun σ => k (.lp s p σ n ps a b)
  | .si s p => frcN p fun p => k (.si s p)
noncomputable def frcSD (S : Store) (k : Store → β) : β := frcL (fun x k => frcN x.1 fun a => frcO x.2 fun b => k (a, b)) S k
noncomputable def frcS (ws : List Nat) (S : Store) (k : Store → β) : β := match ws with
  | [] => k S
  | _ => frcL (fun x k => match memB x.1 ws with | true => frcN x.1 fun a => frcO x.2 fun b => k (a, b) | false => k x) S k
theorem frcN_eq (n : Nat) (k : Nat → β) : frcN n k = k n := by cases n <;> rfl
theorem frcI_eq (n : Int) (k : Int → β) : frcI n k = k n := by cases n <;> simp only [frcI, frcN_eq]
theorem frcV_eq (v : Value) (k : Value → β) : frcV v k = k v := by
  unfold frcV; split <;> simp only [frcI_eq]
theorem frcL_eq {α : Type} {f : α → (α → β) → β} (hf : ∀ x k, f x k = k x) : ∀ (l : List α) (k : List α → β), frcL f l k = k l
  | [], k => rfl
  | x :: r, k => by simp only [frcL, hf, frcL_eq hf r]
mutual
theorem frcD_eq : ∀ (d : D) (k : D → β), frcD d k = k d
  | .v x, k => by simp only [frcD, frcV_eq]
  | .s l, k => by simp only [frcD, frcL_eq (f := fun b k => k b) (fun _ _ => rfl)]
  | .sl es n, k => by simp only [frcD, frcL_eq (f := fun b k => k b) (fun _ _ => rfl)]
  | .ep cs, k => by simp only [frcD, frcL_eq (f := fun b k => k b) (fun _ _ => rfl)]
  | .ref l i, k => by simp only [frcD, frcN_eq]
  | .oel l s i j, k => by simp only [frcD, frcN_eq]
  | .own l n, k => by simp only [frcD, frcN_eq]
  | .mp l, k => by simp only [frcD, frcN_eq]
  | .it l, k => by simp only [frcD, frcN_eq]
  | .yl l, k => by simp only [frcD, frcN_eq]
  | .fn f a b, k => by simp only [frcD, frcDs_eq a, frcDs_eq b]
  | .agg cs, k => by simp only [frcD, frcDs_eq cs]
  | .tup cs, k => by simp only [frcD, frcDs_eq cs]
  | .any, k => by simp only [frcD]
  | .fmp a b, k => by simp only [frcD]
theorem frcDs_eq : ∀ (d : List D) (k : List D → β), frcDs d k = k d
  | [], k => by simp only [frcDs]
  | d :: r, k => by simp only [frcDs, frcD_eq d, frcDs_eq r]
end
theorem frcT_eq (σ : List (Nat × D)) (k : List (Nat × D) → β) : frcT σ k = k σ := frcL_eq (fun _ _ => rfl) σ k
theorem frcTD_eq (σ : List (Nat × D)) (k : List (Nat × D) → β) : frcTD σ k = k σ := frcL_eq (fun x k => by simp only [frcN_eq, frcD_eq]) σ k
theorem frcO_eq (o : AO) (k : AO → β) : frcO o k = k o := by
  cases o with
  | box cs => simp only [frcO, frcDs_eq]
  | row e n es => simp only [frcO, frcN_eq, frcL_eq (f := frcDs) frcDs_eq]
  | mp es => simp only [frcO]; exact frcL_eq (fun x k => by simp only [frcD_eq]) es _
  | lp s p σ n ps a b => simp only [frcO, frcTD_eq]
  | si s p => simp only [frcO, frcN_eq]
theorem frcSD_eq (S : Store) (k : Store → β) : frcSD S k = k S := frcL_eq (fun x k => by simp only [frcN_eq, frcO_eq]) S k
theorem frcS_eq (ws : List Nat) (S : Store) (k : Store → β) : frcS ws S k = k S := by
  cases ws with
  | nil => rfl
  | cons a r => exact frcL_eq (fun x k => by split <;> simp only [frcN_eq, frcO_eq]) S k
end

section
variable (T : Nat → Option TI) (gl : Nat → D) (call yl : Nat → List D → Store → Nat → Option XC) (N : Nat) (ops : Array Oper) (draw : Bool)
/-- xops, with plain data at every step. -/
noncomputable def xopf : List Oper → List (Nat × D) → Store → Nat → List Sk → Option (List (Nat × D) × Store × Nat)
  | [], σ, S, nx, acc => whn (chk N ops draw acc) (some (σ, S, nx))
  | o :: r, σ, S, nx, acc => match o.guard with
    | none => match xop T call yl (evB gl σ) o.op S nx with
      | some (d, S', nx', ls, ws) => frcD d fun d => frcS ws S' fun S' => frcN nx' fun nx' => frcT (insO σ o.dst d) fun σ' => xopf r σ' S' nx' (⟨gTmp ops o ++ opTmps o, ls, o.dst.toList, ws⟩ :: acc)
      | none => none
    | some (j, b) => match gDst ops j with
      | none => none
      | some t => match getB σ t with
        | .v (.bool q) => match q == b with
          | true => match xop T call yl (evB gl σ) o.op S nx with
            | some (d, S', nx', ls, ws) => frcD d fun d => frcS ws S' fun S' => frcN nx' fun nx' => frcT (insO σ o.dst d) fun σ' => xopf r σ' S' nx' (⟨gTmp ops o ++ opTmps o, ls, o.dst.toList, ws⟩ :: acc)
            | none => none
          | false => frcT (insO σ o.dst (.v (.tuple #[]))) fun σ' => xopf r σ' S nx (⟨gTmp ops o, [], o.dst.toList, []⟩ :: acc)
        | .v (.tuple vs) => match vs.toList with | _ :: _ => none | [] => frcT (insO σ o.dst (.v (.tuple #[]))) fun σ' => xopf r σ' S nx (⟨gTmp ops o, [], o.dst.toList, []⟩ :: acc)
        | _ => none
theorem xopf_eq : ∀ (r : List Oper) (σ : List (Nat × D)) (S : Store) (nx : Nat) (acc : List Sk), xopf T gl call yl N ops draw r σ S nx acc = xops T gl call yl N ops draw r σ S nx acc
  | [], _, _, _, _ => rfl
  | o :: r, σ, S, nx, acc => by
    have ih := xopf_eq r
    unfold xopf xops
    simp only [frcD_eq, frcS_eq, frcN_eq, frcT_eq, ih]
    all_goals rfl
end

/-! ### Results, calls, rounds -/
noncomputable def xRes (T : Nat → Option TI) (σ : List (Nat × D)) (S : Store) : List ResultVar → Option (List D)
  | [] => some []
  | .tmp t :: r => (xRes T σ S r).map (getB σ t :: ·)
  | .cell t ty :: r => (T ty).bind fun ti => match getB σ t with
    | .ref l off => match lookB S l with
      | some (.box cs) => (xLoadD ti (cs.drop off)).bind fun d => (xRes T σ S r).map (d :: ·)
      | _ => none
    | .ep cs => (xLoadD ti cs).bind fun d => (xRes T σ S r).map (d :: ·)
    | _ => none
theorem xRes_ok {Y : Sy} {E : Env Y} {σ : List (Nat × D)} {S : Store} : ∀ {rs : List ResultVar} {ds : List D} {K : List D → Prop}, xRes Y.T σ S rs = some ds → K ds → vRes E σ S rs K
  | [], ds, K, h, hK => by simp only [lookB_eq, getB_eq, evB_eq, putB_eq, delB_eq, putAllB_eq, delAllB_eq, idB_eq, newB_eq, pickB_eq, subSB_eq, renBB_eq, xRes, Option.some.injEq] at h; subst h; exact hK
  | .tmp t :: r, ds, K, h, hK => by
    simp only [lookB_eq, getB_eq, evB_eq, putB_eq, delB_eq, putAllB_eq, delAllB_eq, idB_eq, newB_eq, pickB_eq, subSB_eq, renBB_eq, xRes, Option.map_eq_some_iff] at h
    obtain ⟨ds', h1, rfl⟩ := h
    exact xRes_ok (rs := r) h1 hK
  | .cell t ty :: r, ds, K, h, hK => by
    simp only [lookB_eq, getB_eq, evB_eq, putB_eq, delB_eq, putAllB_eq, delAllB_eq, idB_eq, newB_eq, pickB_eq, subSB_eq, renBB_eq, xRes, Option.bind_eq_some_iff] at h
    obtain ⟨ti, hti, h⟩ := h
    refine ⟨ti, hti, ?_⟩
    split at h
    · rename_i l off hg
      simp only [hg]
      split at h
      · rename_i cs hl
        simp only [Option.bind_eq_some_iff, Option.map_eq_some_iff] at h
        obtain ⟨d, hd, ds', h1, rfl⟩ := h
        exact ⟨_, hl, xLoadD_ok (K := fun d => vRes E σ S r fun ds => K (d :: ds)) hd (xRes_ok (rs := r) h1 hK)⟩
      · cases h
    · rename_i cs hg
      simp only [hg]
      simp only [Option.bind_eq_some_iff, Option.map_eq_some_iff] at h
      obtain ⟨d, hd, ds', h1, rfl⟩ := h
      exact xLoadD_ok (K := fun d => vRes E σ S r fun ds => K (d :: ds)) hd (xRes_ok (rs := r) h1 hK)
    · cases h
noncomputable def xFin (k : Nat) (pre : Store) (d : D) (S : Store) (nx : Nat) : Option XC :=
  frcL (fun x k => k x) ((reach 100000 S (nmD d (namesL pre)) []).map fun l => (l, l)) fun m =>
  frcSD (subSB m S m) fun post =>
  whn (renBB k S nx m && (m.all fun x => (lookB post x.1).isSome) && post.all fun x => (lookB pre x.1).isSome || (Nat.ble k x.1 && Nat.blt x.1 nx)) (frcD (subD (newB m) d) fun d => some (d, pre, post, nx))
end Go.Abs
namespace Go.Abs
set_option linter.unusedSimpArgs false
open Go

abbrev Run := Nat → Option Nat → Code → St → Option (Exit × St)
section
variable (T : Nat → Option TI) (gl : Nat → D) (fns : Nat → Option Func) (hk : Nat → List D → Store → Nat → Option XC) (run : Run)
noncomputable def xCall (k : Nat) (args : List D) (S : Store) (nx : Nat) : Option XC := match hk k args S nx with
  | some r => some r
  | none => match fns k with
    | none => none
    | some fn => match fn.body with
      | none => none
      | some body => frcSD (pickB S (reach 100000 S (nmL args []) [])) fun pre0 => frcSD (san pre0) fun pre => frcDs (subL (idB pre0) args) fun args' =>
        whn (Nat.ble args'.length fn.ntmps && pre.all (fun x => Nat.blt x.1 nx)) (frcTD (enumT 0 args') fun σ => match run fn.ntmps none body ⟨σ, pre, nx, []⟩ with
          | some (.normal, st') => (xRes T st'.σ st'.S fn.results.toList).bind fun ds => frcD (packD ds) fun d => xFin nx pre0 d st'.S st'.nx
          | some (.ret, st') => (xRes T st'.σ st'.S fn.results.toList).bind fun ds => frcD (packD ds) fun d => xFin nx pre0 d st'.S st'.nx
          | _ => none)
/-- A call, functions without a text among them. -/
noncomputable def xCallE (ext : Nat → List D → Option D) (k : Nat) (args : List D) (S : Store) (nx : Nat) : Option XC := match ext k args with
  | some d => some (d, [], [], nx)
  | none => xCall T fns hk run k args S nx
noncomputable def xYl (l : Nat) (args : List D) (S : Store) (nx : Nat) : Option XC :=
  frcSD (pickB S (reach 100000 S (l :: nmL args []) [])) fun pre0 => frcSD (san pre0) fun pre => frcDs (subL (idB pre0) args) fun args' =>
    match lookB pre l with
    | some (.lp .ready _ σ n ps as bd) => whn (Nat.beq args'.length ps.length && (ps.all fun t => Nat.blt t n) && pre.all (fun x => Nat.blt x.1 nx)) (frcT (zipT σ ps args') fun σ1 =>
      match run n (some l) as ⟨σ1, pre, nx, []⟩ with
      | some (.normal, st1) => match lookB st1.S l with
        | some (.lp .ready pd1 σ1 n1 ps1 as1 bd1) => frcS [l] (putB st1.S l (.lp .busy pd1 σ1 n1 ps1 as1 bd1)) fun S1 => match run n (some l) bd ⟨st1.σ, S1, st1.nx, []⟩ with
          | some (e, st2) => match jumpOf e with
            | none => none
            | some j => match lookB st2.S l with
              | some (.lp _ _ σ3 n3 ps3 as3 bd3) => frcS [l] (putB st2.S l (.lp (if j.isNone then .ready else .done) j σ3 n3 ps3 as3 bd3)) fun S2 => xFin nx pre0 (.v (.bool j.isNone)) S2 st2.nx
              | _ => none
          | none => none
        | _ => none
      | _ => none)
    | _ => none
noncomputable def inRdB (rd : Option Nat) (S : Store) : Bool := match rd with
  | none => true
  | some l => match lookB S l with | some (.lp _ _ _ _ _ _ _) => true | _ => false
noncomputable def xcF (ext : Nat → List D → Option D) (N : Nat) (rd : Option Nat) : Code → St → Option (Exit × St)
  | .skip, st => some (.normal, st)
  | .label _, st => some (.normal, st)
  | .exit id, st => some (.exit id, st)
  | .goto l, st => some (.goto l, st)
  | .ret, st => some (.ret, st)
  | .region _ ops draw, st => match xopf T gl (xCallE T fns hk run ext) (xYl run) N ops draw ops.toList st.σ st.S st.nx [] with
    | some (σ, S, nx) => some (.normal, ⟨σ, S, nx, []⟩)
    | none => none
  | .seq a b, st => match run N rd a st with
    | some (.normal, st') => run N rd b st'
    | r => r
  | .block id c, st => match run N rd c st with
    | some (.exit id', st') => match Nat.beq id' id with | true => some (.normal, st') | false => some (.exit id', st')
    | r => r
  | .scope c, st => match run N rd c st with
    | some (.goto _, _) => none
    | r => r
  | .cond x a b, st => match evB gl st.σ x with
    | .v (.bool true) => run N rd a st
    | .v (.bool false) => run N rd b st
    | _ => none
  | .loop c, st => match run N rd c st with
    | some (.normal, st') => run N rd (.loop c) st'
    | r => r
  | .rangeFunc g ps as bd, st => whn (inRdB rd st.S) (match vCallee (evB gl st.σ g) [.yl st.nx] with
    | none => none
    | some (k, args) => frcSD ((st.nx, .lp .ready none st.σ N ps.toList as bd) :: st.S) fun S1 => match xCall T fns hk run k args S1 (st.nx + 1) with
      | none => none
      | some (_, pre, post, nx') => frcSD (putAllB (delAllB S1 (namesL pre)) post) fun S2 => match lookB S2 st.nx with
        | some (.lp .busy _ _ _ _ _ _) => none
        | some (.lp _ pd _ _ _ _ _) => frcSD (delB S2 st.nx) fun S3 => match pd with
          | none => some (.normal, ⟨st.σ, S3, nx', []⟩)
          | some c => run N rd c ⟨st.σ, S3, nx', []⟩
        | _ => none)
  | .refuse _, _ => none
end
noncomputable def X (T : Nat → Option TI) (gl : Nat → D) (fns : Nat → Option Func) (hk : Nat → List D → Store → Nat → Option XC) (ext : Nat → List D → Option D) : Nat → Run
  | 0 => fun _ _ _ _ => none
  | f + 1 => fun N rd c st => xcF T gl fns hk (X T gl fns hk ext f) ext N rd c st
end Go.Abs
namespace Go.Abs
set_option linter.unusedSimpArgs false
open Go

/-- What is known of functions from elsewhere. -/
def HookOK (Y : Sy) (call : Nat → List D → Store → Nat → Option XC) : Prop := ∀ k args S nx d pre post nx', call k args S nx = some (d, pre, post, nx') → FnOK Y k args pre d post ∧ Touch S nx pre post nx'
def ExtsOK (Y : Sy) (ext : Nat → List D → Option D) : Prop := ∀ k args d, ext k args = some d → ExtOK Y k args d
/-- What a run says. -/
def QX {Y : Sy} (E : Env Y) (e : Exit) (st' : St) : Exit → St → Prop := fun e2 st2 => e2 = e ∧ Into E st2 st'
def RunOK (Y : Sy) (run : Run) : Prop := ∀ N rd c st e st', run N rd c st = some (e, st') → ∀ E : Env Y, E.N = N → E.rd = rd →
  W E c st (QX E e st') ∧ ∀ c', c = .loop c' → ∃ m, WR E c' (QX E e st') m st
theorem Into.ds {Y : Sy} {E : Env Y} {st st' : St} (h : Into E st st') (ds : List Deferred) : Into E st ⟨st'.σ, st'.S, st'.nx, ds⟩ := fun a w g hs =>
  let ⟨g', q⟩ := h a w g hs; ⟨g', q.rc, q.tm, q.ss, q.sz, q.df, q.nm⟩
theorem Into.fromDs {Y : Sy} {E : Env Y} {st st' : St} (ds : List Deferred) (h : Into E ⟨st.σ, st.S, st.nx, ds⟩ st') : Into E st st' := fun a w g q => h a w g ⟨q.rc, q.tm, q.ss, q.sz, q.df, q.nm⟩
theorem QX.into {Y : Sy} {E : Env Y} {e e2 : Exit} {st1 st2 st' : St} (h : QX E e st' e2 st2) (hi : Into E st1 st2) : QX E e st' e2 st1 := ⟨h.1, hi.trans h.2⟩

section
variable {Y : Sy} {run : Run} (hr : RunOK Y run)
include hr
omit hr in
theorem xFin_ok {k : Nat} {pre : Store} {d d' : D} {S : Store} {nx nx' : Nat} {pre' post : Store} (h : xFin k pre d S nx = some (d', pre', post, nx')) :
    pre' = pre ∧ nx' = nx ∧ k ≤ nx ∧ ∃ m, renB k S nx m = true ∧ (m.all fun x => (look post x.1).isSome) = true ∧ subD (newOf m) d = d' ∧ weakS (subS m S m) post ∧ (∀ x ∈ post, look pre x.1 = none → k ≤ x.1 ∧ x.1 < nx) := by
  simp only [lookB_eq, getB_eq, evB_eq, putB_eq, delB_eq, putAllB_eq, delAllB_eq, idB_eq, newB_eq, pickB_eq, subSB_eq, renBB_eq, xFin, frcL_eq (f := fun (x : Nat × Nat) (k : Nat × Nat → Option XC) => k x) (fun _ _ => rfl), frcSD_eq, frcD_eq, whn_some, Bool.and_eq_true, Option.some.injEq, Prod.mk.injEq] at h
  obtain ⟨⟨⟨h1, h2⟩, h3⟩, rfl, rfl, rfl, rfl⟩ := h
  have h4 := h1
  simp only [renB, Bool.and_eq_true, Nat.ble_eq] at h4
  refine ⟨rfl, rfl, h4.1.2, _, h1, h2, rfl, weakS_sub h4.1.1, fun x hx hn => ?_⟩
  have := List.all_eq_true.1 h3 x hx
  simp only [hn, Option.isSome_none, Bool.false_or, Bool.and_eq_true, Nat.ble_eq, Nat.blt_eq] at this
  exact this
omit hr in
theorem look_pick {S : Store} {L : List Nat} {x : Nat × AO} (h : x ∈ pickS S L) : look S x.1 = some x.2 := pickS_ok S L x h

theorem xCall_ok {fns : Nat → Option Func} (hfn : ∀ k fn, fns k = some fn → Y.P.funcs[k]? = some fn ∧ (fn.name == "runtime.NumGoroutine") = false) {hk : Nat → List D → Store → Nat → Option XC} (hhk : HookOK Y hk) : HookOK Y (xCall Y.T fns hk run) := by
  intro k args S nx d pre post nx' h
  unfold xCall at h
  try simp only [lookB_eq, getB_eq, evB_eq, putB_eq, delB_eq, putAllB_eq, delAllB_eq, idB_eq, newB_eq, pickB_eq, subSB_eq, renBB_eq] at h
  split at h
  · rename_i r hr'
    cases h
    exact hhk _ _ _ _ _ _ _ _ hr'
  · split at h
    · cases h
    · rename_i fn hfk
      obtain ⟨hf, hnm⟩ := hfn k fn hfk
      split at h
      · cases h
      · rename_i body hb
        simp only [frcSD_eq, frcDs_eq, frcTD_eq, whn_some, Bool.and_eq_true, Nat.ble_eq] at h
        obtain ⟨⟨hlen, hlt⟩, h⟩ := h
        have key : ∀ e st', (e = Exit.normal ∨ e = Exit.ret) → run fn.ntmps none body ⟨enumT 0 (subL (idP (pickS S (reach 100000 S (nmL args []) []))) args), san (pickS S (reach 100000 S (nmL args []) [])), nx, []⟩ = some (e, st') →
            ((xRes Y.T st'.σ st'.S fn.results.toList).bind fun ds => frcD (packD ds) fun d => xFin nx (pickS S (reach 100000 S (nmL args []) [])) d st'.S st'.nx) = some (d, pre, post, nx') → FnOK Y k args pre d post ∧ Touch S nx pre post nx' := by
          intro e st' he hrun hres
          simp only [Option.bind_eq_some_iff, frcD_eq] at hres
          obtain ⟨ds, hds, hfin⟩ := hres
          obtain ⟨rfl, rfl, hnx, m, hm, hmp, hd, hpost, hnew⟩ := xFin_ok hfin
          refine ⟨FnOK.san (FnOK.introR fn hf hnm hb _ rfl nx hlt hlen (san_args _ _) (san_san _) fun E hN hrd h0 => ?_), fun x hx => look_pick hx, hnx, hnew⟩
          refine (hr _ _ _ _ _ _ hrun E hN hrd).1.mono ?_
          rintro e2 st2 ⟨rfl, hi⟩
          exact ⟨he, ⟨st'.σ, st'.S, st'.nx, []⟩, hi.ds [], rfl, xRes_ok hds ⟨m, st'.nx, hm, hd, hpost, hmp⟩⟩
        split at h
        · rename_i st' hrun; exact key _ st' (.inl rfl) hrun h
        · rename_i st' hrun; exact key _ st' (.inr rfl) hrun h
        · cases h

theorem xYl_ok : YlOK Y (xYl run) := by
  intro l args S nx d pre post nx' h
  unfold xYl at h
  try simp only [lookB_eq, getB_eq, evB_eq, putB_eq, delB_eq, putAllB_eq, delAllB_eq, idB_eq, newB_eq, pickB_eq, subSB_eq, renBB_eq] at h
  simp only [frcSD_eq, frcDs_eq, frcT_eq, frcS_eq] at h
  split at h
  · rename_i pd σ n ps as bd hl
    simp only [whn_some, Bool.and_eq_true] at h
    obtain ⟨⟨⟨hlen, hps⟩, hlt⟩, h⟩ := h
    split at h
    · rename_i st1 hrun1
      split at h
      · rename_i pd1 σ1 n1 ps1 as1 bd1 hl1
        split at h
        · rename_i e st2 hrun2
          split at h
          · cases h
          · rename_i j hj
            split at h
            · rename_i s3 pd3 σ3 n3 ps3 as3 bd3 hl3
              obtain ⟨rfl, rfl, hnx, m, hm, hmp, hd, hpost, hnew⟩ := xFin_ok h
              refine ⟨RdOK.san (RdOK.intro hl nx hlt (san_args _ _) (san_san _) (Nat.eq_of_beq_eq_true hlen) hps fun E hN hrd h0 => ?_), fun x hx => look_pick hx, hnx, hnew⟩
              refine (hr _ _ _ _ _ _ hrun1 E hN hrd).1.mono ?_
              rintro e2 stA ⟨rfl, hi⟩
              refine ⟨st1, hi, pd1, σ1, n1, ps1, as1, bd1, hl1, ?_⟩
              refine (hr _ _ _ _ _ _ hrun2 E hN hrd).1.mono ?_
              rintro e2 stB ⟨rfl, hi2⟩
              exact ⟨j, hj, by rw [← hd]; simp [subD], st2, hi2, s3, pd3, σ3, n3, ps3, as3, bd3, hl3, m, _, hm, hpost, hmp⟩
            · cases h
        · cases h
      · cases h
    · cases h
  · cases h

theorem xcF_ok {fns : Nat → Option Func} (hfn : ∀ k fn, fns k = some fn → Y.P.funcs[k]? = some fn ∧ (fn.name == "runtime.NumGoroutine") = false) {hk : Nat → List D → Store → Nat → Option XC} (hhk : HookOK Y hk) {ext : Nat → List D → Option D} (hext : ExtsOK Y ext) : RunOK Y (fun N rd c st => xcF Y.T Y.gl fns hk run ext N rd c st) := by
  have hcall := xCall_ok hr hfn hhk
  have hcallE : CallOK Y (xCallE Y.T fns hk run ext) := by
    intro k args S nx d pre post nx' h
    unfold xCallE at h
    split at h
    · rename_i d' hd
      cases h
      exact .inr ⟨hext _ _ _ hd, rfl, rfl, rfl⟩
    · exact .inl (hcall _ _ _ _ _ _ _ _ h)
  have hyl := xYl_ok hr
  intro N rd c st e st' h E hN hrd
  -- what a rule gives for code that is no loop
  have nl : W E c st (QX E e st') → (∀ c', c ≠ .loop c') → W E c st (QX E e st') ∧ ∀ c', c = .loop c' → ∃ m, WR E c' (QX E e st') m st := fun h h' => ⟨h, fun c' e => absurd e (h' c')⟩
  cases c <;> simp only [xcF, lookB_eq, getB_eq, evB_eq, putB_eq, delB_eq, putAllB_eq, delAllB_eq, idB_eq, newB_eq] at h
  case skip => cases h; exact nl (W.skip ⟨rfl, Into.refl⟩) (by simp)
  case label => cases h; exact nl (W.label ⟨rfl, Into.refl⟩) (by simp)
  case exit id => cases h; exact nl (W.exit ⟨rfl, Into.refl⟩) (by simp)
  case goto l => cases h; exact nl (W.goto ⟨rfl, Into.refl⟩) (by simp)
  case ret => cases h; exact nl (W.ret ⟨rfl, Into.refl⟩) (by simp)
  case refuse => cases h
  case region id ops draw =>
    refine nl ?_ (by simp)
    split at h
    · rename_i σ S nx hx
      cases h
      rw [xopf_eq] at hx
      refine W.region [] hN (xops_ok hcallE hyl hx (fun _ => rfl) fun σv hσ => ⟨rfl, ?_⟩)
      exact fun a w g q => ⟨g, q.rc, fun t => by rw [← hσ]; exact q.tm t, q.ss, q.sz, q.df, q.nm⟩
    · cases h
  case seq a b =>
    refine nl (W.seq ?_) (by simp)
    split at h
    · rename_i st1 h1
      refine (hr _ _ _ _ _ _ h1 E hN hrd).1.mono ?_
      rintro e2 st2 ⟨rfl, hi⟩
      exact W.into hi (hr _ _ _ _ _ _ h E hN hrd).1
    · rename_i hne
      refine (hr _ _ _ _ _ _ h E hN hrd).1.mono ?_
      rintro e2 st2 ⟨rfl, hi⟩
      cases e2 with
      | normal => exact absurd h (hne st')
      | _ => exact ⟨rfl, hi⟩
  case block id c =>
    refine nl (W.block ?_) (by simp)
    split at h
    · rename_i id' st1 h1
      refine (hr _ _ _ _ _ _ h1 E hN hrd).1.mono ?_
      rintro e2 st2 ⟨rfl, hi⟩
      split at h
      · rename_i he
        cases h
        simp only [blockQ, if_pos (Nat.eq_of_beq_eq_true he)]
        exact ⟨rfl, hi⟩
      · rename_i he
        cases h
        have hne : id' ≠ id := by rintro rfl; simp at he
        simp only [blockQ, if_neg hne]
        exact ⟨rfl, hi⟩
    · rename_i hne
      refine (hr _ _ _ _ _ _ h E hN hrd).1.mono ?_
      rintro e2 st2 ⟨rfl, hi⟩
      cases e2 with
      | exit id' => exact absurd h (hne id' st')
      | _ => exact ⟨rfl, hi⟩
  case scope c =>
    refine nl (W.scope ?_) (by simp)
    split at h
    · cases h
    · rename_i hne
      refine (hr _ _ _ _ _ _ h E hN hrd).1.mono ?_
      rintro e2 st2 ⟨rfl, hi⟩
      cases e2 with
      | goto l => exact absurd h (hne l st')
      | _ => exact ⟨rfl, hi⟩
  case cond x a b =>
    refine nl ?_ (by simp)
    split at h
    · rename_i hx
      exact W.cond hx (fun _ => (hr _ _ _ _ _ _ h E hN hrd).1) (fun e => by cases e)
    · rename_i hx
      exact W.cond hx (fun e => by cases e) (fun _ => (hr _ _ _ _ _ _ h E hN hrd).1)
    · cases h
  case loop c =>
    have hm : ∃ m, WR E c (QX E e st') m st := by
      split at h
      · rename_i st1 h1
        obtain ⟨m, hm⟩ := (hr _ _ _ _ _ _ h E hN hrd).2 c rfl
        refine ⟨m + 1, (hr _ _ _ _ _ _ h1 E hN hrd).1.mono ?_⟩
        rintro e2 st2 ⟨rfl, hi⟩
        exact WR.into hi hm
      · rename_i hne
        refine ⟨1, (hr _ _ _ _ _ _ h E hN hrd).1.mono ?_⟩
        rintro e2 st2 ⟨rfl, hi⟩
        cases e2 with
        | normal => exact absurd h (hne st')
        | _ => exact ⟨rfl, hi⟩
    obtain ⟨m, hm'⟩ := hm
    exact ⟨W.rounds hm', fun c' e => by cases e; exact ⟨m, hm'⟩⟩
  case rangeFunc g ps as bd =>
    refine nl ?_ (by simp)
    simp only [whn_some] at h
    obtain ⟨hin, h⟩ := h
    have hin' : inRd E st.S := by
      unfold inRd
      rw [hrd]
      unfold inRdB at hin
      simp only [lookB_eq] at hin
      cases rd with
      | none => trivial
      | some l =>
        simp only at hin ⊢
        split at hin
        · rename_i s pd σ n p a b hl; exact ⟨s, pd, σ, n, p, a, b, hl⟩
        · cases hin
    split at h
    · cases h
    · rename_i k args hv
      simp only [frcSD_eq] at h
      split at h
      · cases h
      · rename_i d pre post nx' hc
        obtain ⟨h1, h2⟩ := hcall _ _ _ _ _ _ _ _ hc
        subst hN
        refine W.rangeFunc hin' hv h1 h2 ?_
        split at h
        · cases h
        · rename_i s pd σ n p a b hnb hl
          refine ⟨s, pd, σ, n, p, a, b, hl, hnb, ?_⟩
          split at h
          · cases h
            exact ⟨rfl, Into.refl.ds []⟩
          · rename_i c
            simp only
            exact W.into (Into.refl.ds []) (hr _ _ _ _ _ _ h E rfl hrd).1
        · cases h
end
theorem X_ok {Y : Sy} {fns : Nat → Option Func} (hfn : ∀ k fn, fns k = some fn → Y.P.funcs[k]? = some fn ∧ (fn.name == "runtime.NumGoroutine") = false) {hk : Nat → List D → Store → Nat → Option XC} (hhk : HookOK Y hk) {ext : Nat → List D → Option D} (hext : ExtsOK Y ext) : ∀ f, RunOK Y (X Y.T Y.gl fns hk ext f)
  | 0 => fun N rd c st e st' h => by cases h
  | f + 1 => xcF_ok (X_ok hfn hhk hext f) hfn hhk hext
/-- A function, carried out. -/
theorem X_fn {Y : Sy} {fns : Nat → Option Func} (hfn : ∀ k fn, fns k = some fn → Y.P.funcs[k]? = some fn ∧ (fn.name == "runtime.NumGoroutine") = false) {hk : Nat → List D → Store → Nat → Option XC} (hhk : HookOK Y hk) {ext : Nat → List D → Option D} (hext : ExtsOK Y ext) (f : Nat) {k : Nat} {args : List D} {S : Store} {nx : Nat} {d : D} {pre post : Store} {nx' : Nat}
    (h : xCall Y.T fns hk (X Y.T Y.gl fns hk ext f) k args S nx = some (d, pre, post, nx')) : FnOK Y k args pre d post := (xCall_ok (X_ok hfn hhk hext f) hfn hhk _ _ _ _ _ _ _ _ h).1
end Go.Abs
