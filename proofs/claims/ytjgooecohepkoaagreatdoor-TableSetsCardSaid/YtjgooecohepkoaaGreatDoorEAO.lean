/- An abstract walk over the model: what a function does, as a computation on described values; proved once for all functions. -/
import Derived.Test.YtjgooecohepkoaaGreatDoorEAN
import Derived.Shelf.SlIter.Nil
import Derived.Test.YtjgooecohepkoaaGreatDoorEAM
set_option linter.unusedVariables false
set_option linter.unusedSimpArgs false
namespace Go.Abs
open Go
/-! ### Texts in order -/
abbrev leS' : List UInt8 → List UInt8 → Bool := fun x y => decide (x ≤ y)
def sortS (L : List (List UInt8)) : List (List UInt8) := L.mergeSort leS'
theorem leS_trans (a b c : List UInt8) (h : leS' a b = true) (h' : leS' b c = true) : leS' a c = true := by
  simp only [leS', decide_eq_true_eq] at *
  exact List.le_trans h h'
theorem leS_total (a b : List UInt8) : (leS' a b || leS' b a) = true := by
  simp only [leS', Bool.or_eq_true, decide_eq_true_eq]
  exact List.le_total a b
theorem sortS_pairwise (L : List (List UInt8)) : (sortS L).Pairwise (fun a b => leS' a b = true) := List.pairwise_mergeSort leS_trans leS_total L
theorem sortS_perm (L : List (List UInt8)) : (sortS L).Perm L := List.mergeSort_perm L leS'
theorem sortS_unique {L L' : List (List UInt8)} (h : L'.Perm L) (hp : L'.Pairwise (fun a b => leS' a b = true)) : L' = sortS L :=
  List.Perm.eq_of_pairwise (le := fun a b => leS' a b = true) (fun a b _ _ h1 h2 => by
    simp only [leS', decide_eq_true_eq] at h1 h2
    exact List.le_antisymm h1 h2) hp (sortS_pairwise L) (h.trans (sortS_perm L).symm)
theorem sortS_of_perm {L L' : List (List UInt8)} (h : L'.Perm L) : sortS L' = sortS L := sortS_unique ((sortS_perm L').trans h) (sortS_pairwise L')
theorem sortS_length (L : List (List UInt8)) : (sortS L).length = L.length := (sortS_perm L).length_eq

/-! ### A set of texts, as the kit reads a map -/
theorem insert_perm {H : Type} (x : Lit × DataW H) : ∀ l : List (Lit × DataW H), (DataW.insert x l).Perm (x :: l)
  | [] => List.Perm.refl _
  | y :: r => by
    simp only [DataW.insert]
    split
    · exact List.Perm.refl _
    · exact ((insert_perm x r).cons y).trans (List.Perm.swap x y r)
theorem insert_all_perm {H : Type} : ∀ l : List (Lit × DataW H), (l.foldr DataW.insert []).Perm l
  | [] => List.Perm.refl _
  | x :: r => (insert_perm x _).trans ((insert_all_perm r).cons x)
def anyR (_ : Value) : Option (DataW Unit × List MemPlace) := some (.lit (.bool true), [])
theorem keys_map {P : Program} {k : TypeId} (hk : P.underlying k = some .string) {w : World} {b : Nat} {arr : Array MapEntry} {clock : Nat} (hh : w.heap[b]? = some (.map arr clock)) {L : List (List UInt8)}
    (hkeys : arr.toList.map (·.key) = L.map fun s => .string ⟨⟨s⟩⟩) (hb1 : ∀ e ∈ arr.toList, e.born < clock) (hb2 : (arr.toList.map (·.born)).Nodup) (hn : L.Nodup) (hl : ∀ s ∈ L, s.length ≤ maxLen) (hlen : L.length ≤ maxLen) :
    ∃ D0 : DataW Unit, w.ownsMap P k anyR b L.length D0 ∧ (strKeys D0).Perm L ∧ Maps.size D0 = L.length := by
  have hkey : ∀ s : List UInt8, s.length ≤ maxLen → keyOf P k (.string ⟨⟨s⟩⟩) = some (.string s) := by
    intro s hs
    have hsz : (⟨⟨s⟩⟩ : ByteArray).size = s.length := rfl
    simp [keyOf, hk, mapKey, hsz, hs]
  have hmk : ∀ e ∈ arr.toList, ∃ s ∈ L, e.key = .string ⟨⟨s⟩⟩ := by
    intro e he
    have h1 : e.key ∈ arr.toList.map (·.key) := List.mem_map_of_mem he
    rw [hkeys] at h1
    obtain ⟨s, hs, e'⟩ := List.mem_map.1 h1
    exact ⟨s, hs, e'.symm⟩
  have hsz : arr.size = L.length := by
    have := congrArg List.length hkeys
    simpa using this
  refine ⟨.map ((arr.toList.map (WideElems.rg P k anyR)).foldr DataW.insert []), ⟨arr, clock, hh, ⟨by omega, ⟨hb1, hb2, ?_⟩, fun x hx => ?_⟩, by omega, rfl⟩, ?_, ?_⟩
  · rw [hkeys]
    exact List.Pairwise.map (S := (· ≠ ·)) (fun s : List UInt8 => (Value.string ⟨⟨s⟩⟩)) (fun x y h => by intro e; apply h; simpa using e) hn
  · obtain ⟨s, hs, e⟩ := hmk x hx
    exact ⟨(.string s, .lit (.bool true)), by simp only [WideElems.rd, e, hkey s (hl s hs), anyR, Option.bind_some, Option.map_some]⟩
  · show (((arr.toList.map (WideElems.rg P k anyR)).foldr DataW.insert []).map fun p => strOf p.1).Perm L
    refine ((insert_all_perm _).map _).trans ?_
    rw [List.map_map]
    have : arr.toList.map ((fun p : Lit × DataW Unit => strOf p.1) ∘ WideElems.rg P k anyR) = L := by
      have h1 : ∀ e ∈ arr.toList, some (((fun p : Lit × DataW Unit => strOf p.1) ∘ WideElems.rg P k anyR) e) = (match e.key with | .string x => some x.data.toList | _ => none) := by
        intro e he
        obtain ⟨s, hs, ek⟩ := hmk e he
        simp only [Function.comp_def, WideElems.rg, WideElems.rd, ek, hkey s (hl s hs), anyR, Option.bind_some, Option.map_some, Option.getD_some, strOf]
      have h2 : (arr.toList.map ((fun p : Lit × DataW Unit => strOf p.1) ∘ WideElems.rg P k anyR)).map some = L.map some := by
        rw [List.map_map]
        rw [List.map_congr_left (g := fun e => match e.key with | .string x => some x.data.toList | _ => none) (fun e he => h1 e he)]
        have : (arr.toList.map fun e => match e.key with | .string x => some x.data.toList | _ => none) = (arr.toList.map (·.key)).map (fun v => match v with | .string x => some x.data.toList | _ => none) := by rw [List.map_map]; rfl
        rw [this, hkeys, List.map_map]
        rfl
      exact List.map_inj_right (fun _ _ h => Option.some.inj h) |>.1 h2
    rw [this]
  · show ((arr.toList.map (WideElems.rg P k anyR)).foldr DataW.insert []).length = L.length
    rw [(insert_all_perm _).length_eq]
    simp [hsz]
end Go.Abs
namespace Go.Abs
open Go
/-! ### The same, as the kernel computes it -/
def lexLe : List UInt8 → List UInt8 → Bool
  | [], _ => true
  | _ :: _, [] => false
  | x :: xs, y :: ys => match Nat.blt x.toNat y.toNat with
    | true => true
    | false => match Nat.beq x.toNat y.toNat with
      | true => lexLe xs ys
      | false => false
theorem lexLe_iff : ∀ {a b : List UInt8}, lexLe a b = true ↔ a ≤ b
  | [], b => by simp [lexLe]
  | x :: xs, [] => by simp [lexLe]
  | x :: xs, y :: ys => by
    rw [List.cons_le_cons_iff]
    simp only [lexLe]
    cases h : Nat.blt x.toNat y.toNat with
    | true =>
      simp only [Nat.blt_eq] at h
      simp only [true_iff]
      exact .inl (UInt8.lt_iff_toNat_lt.2 h)
    | false =>
      have h1 : ¬ x < y := by
        intro h2
        have : Nat.blt x.toNat y.toNat = true := by simpa using UInt8.lt_iff_toNat_lt.1 h2
        rw [h] at this; cases this
      cases h2 : Nat.beq x.toNat y.toNat with
      | true =>
        have h3 : x = y := UInt8.toNat_inj.1 (Nat.eq_of_beq_eq_true h2)
        simp only [lexLe_iff]
        constructor
        · exact fun h => .inr ⟨h3, h⟩
        · rintro (h | ⟨_, h⟩)
          · exact absurd h h1
          · exact h
      | false =>
        have h3 : ¬ x = y := by rintro rfl; simp at h2
        simp [h1, h3]
def insS (x : List UInt8) : List (List UInt8) → List (List UInt8)
  | [] => [x]
  | y :: r => match lexLe x y with | true => x :: y :: r | false => y :: insS x r
def isortS : List (List UInt8) → List (List UInt8)
  | [] => []
  | x :: r => insS x (isortS r)
theorem insS_perm (x : List UInt8) : ∀ l, (insS x l).Perm (x :: l)
  | [] => List.Perm.refl _
  | y :: r => by
    simp only [insS]
    split
    · exact List.Perm.refl _
    · exact ((insS_perm x r).cons y).trans (List.Perm.swap x y r)
theorem isortS_perm : ∀ l, (isortS l).Perm l
  | [] => List.Perm.refl _
  | x :: r => (insS_perm x _).trans ((isortS_perm r).cons x)
theorem insS_pairwise (x : List UInt8) : ∀ {l : List (List UInt8)}, l.Pairwise (fun a b => leS' a b = true) → (insS x l).Pairwise (fun a b => leS' a b = true)
  | [], _ => by simp [insS]
  | y :: r, h => by
    simp only [insS]
    rw [List.pairwise_cons] at h
    split
    · rename_i hxy
      have hxy' : leS' x y = true := by simpa [leS'] using lexLe_iff.1 hxy
      rw [List.pairwise_cons]
      refine ⟨fun z hz => ?_, List.pairwise_cons.2 h⟩
      rcases List.mem_cons.1 hz with rfl | hz
      · exact hxy'
      · exact leS_trans _ _ _ hxy' (h.1 z hz)
    · rename_i hxy
      rw [List.pairwise_cons]
      refine ⟨fun z hz => ?_, insS_pairwise x h.2⟩
      rcases List.mem_cons.1 ((insS_perm x r).mem_iff.1 hz) with rfl | hz
      · have := leS_total z y
        simp only [Bool.or_eq_true] at this
        rcases this with h1 | h1
        · exact absurd (lexLe_iff.2 (by simpa [leS'] using h1)) (by simp [hxy])
        · exact h1
      · exact h.1 z hz
theorem isortS_eq (l : List (List UInt8)) : isortS l = sortS l := by
  refine sortS_unique (isortS_perm l) ?_
  induction l with
  | nil => simp [isortS]
  | cons x r ih => exact insS_pairwise x ih
/-- The texts of a set's entries. -/
def keysS : List (Value × D) → Option (List (List UInt8))
  | [] => some []
  | (.string s, .v (.bool true)) :: r => (keysS r).map (s.data.toList :: ·)
  | _ => none
def memL (x : List UInt8) : List (List UInt8) → Bool
  | [] => false
  | y :: r => match (lexLe x y && lexLe y x) with | true => true | false => memL x r
def nodupS : List (List UInt8) → Bool
  | [] => true
  | x :: r => !memL x r && nodupS r
theorem memL_iff (x : List UInt8) : ∀ l, memL x l = true ↔ x ∈ l
  | [] => by simp [memL]
  | y :: r => by
    simp only [memL, List.mem_cons]
    cases h : (lexLe x y && lexLe y x) with
    | true =>
      simp only [Bool.and_eq_true, lexLe_iff] at h
      simp [List.le_antisymm h.1 h.2]
    | false =>
      have hne : ¬ x = y := by
        rintro rfl
        have h1 : lexLe x x = true := lexLe_iff.2 (List.le_refl x)
        simp [h1] at h
      simp [hne, memL_iff x r]
theorem nodupS_iff : ∀ l, nodupS l = true ↔ l.Nodup
  | [] => by simp [nodupS]
  | x :: r => by
    simp only [nodupS, Bool.and_eq_true, Bool.not_eq_true', List.nodup_cons, nodupS_iff r]
    rw [← memL_iff x r]
    simp
end Go.Abs
namespace Go.Abs
open Go
/-! ### Steps in short -/
attribute [go_sem] reduceIte Nat.reduceEqDiff Nat.reduceAdd Nat.reduceMul Nat.reduceSub Nat.reduceLT Nat.reduceLeDiff Int.reduceToNat reduceCtorEq Int.reduceEq Int.reduceBEq Int.reduceLE Int.reduceLT
section
variable {Y : Sy} {E : Env Y} {N : Nat} {fz : List Nat} {ops : Array Oper} {draw : Bool} {K : RT} {r : List Oper} {σ : List (Nat × D)} {S : Store} {nx : Nat} {acc : List Sk} {st st' : St} {Q Q' : Exit → St → Prop} {c c' : Code}
/-- What comes behind a guarded operation: it ran (0), it was passed over (1), so was its guard (2). -/
@[reducible] def VG (E : Env Y) (N : Nat) (fz : List Nat) (ops : Array Oper) (draw : Bool) (K : RT) (r : List Oper) (σ : List (Nat × D)) (acc : List Sk) (t g : Nat) (b : Bool) (gt ot : List Nat) : Nat → D → Store → Nat → List Nat → List Nat → Prop
  | 0, d, S, nx, ls, ws => VO E N fz ops draw K r ((t, d) :: (g, .v (.bool b)) :: σ) S nx (⟨gt ++ ot, ls, [t], ws⟩ :: acc)
  | 1, _, S, nx, _, _ => VO E N fz ops draw K r ((t, .v (.tuple #[])) :: (g, .v (.bool !b)) :: σ) S nx (⟨gt, [], [t], []⟩ :: acc)
  | _, _, S, nx, _, _ => VO E N fz ops draw K r ((t, .v (.tuple #[])) :: σ) S nx (⟨gt, [], [t], []⟩ :: acc)
/-- Which way a condition goes. -/
@[reducible] def VC (E : Env Y) (N : Nat) (fz : List Nat) (c c' : Code) (st : St) (Q : Exit → St → Prop) : Nat → Prop
  | 0 => vcode E N fz c' st Q
  | _ => vcode E N fz c st Q
theorem st1 {t : Nat} {op : Op} {ty : TypeId} {pos : String} {af : Array Edge}
    (h : ∀ K' : Nat → KT, (∀ i d S' nx' ls ws, VO E N fz ops draw K r ((t, d) :: σ) S' nx' (⟨gTmp ops ⟨some t, op, ty, pos, af, none⟩ ++ opTmps ⟨some t, op, ty, pos, af, none⟩, ls, [t], ws⟩ :: acc) → K' i d S' nx' ls ws) → vop E (memN fz t) σ op S nx (K' 0)) :
    VO E N fz ops draw K (⟨some t, op, ty, pos, af, none⟩ :: r) σ S nx acc := ⟨h (fun _ => _) fun _ _ _ _ _ _ h => h.h⟩
theorem st2 {op : Op} {ty : TypeId} {pos : String} {af : Array Edge}
    (h : ∀ K' : Nat → KT, (∀ i d S' nx' ls ws, VO E N fz ops draw K r σ S' nx' (⟨gTmp ops ⟨none, op, ty, pos, af, none⟩ ++ opTmps ⟨none, op, ty, pos, af, none⟩, ls, [], ws⟩ :: acc) → K' i d S' nx' ls ws) → vop E false σ op S nx (K' 0)) :
    VO E N fz ops draw K (⟨none, op, ty, pos, af, none⟩ :: r) σ S nx acc := ⟨h (fun _ => _) fun _ _ _ _ _ _ h => h.h⟩
theorem st3 {t g : Nat} {op : Op} {ty : TypeId} {pos : String} {af : Array Edge} {j : Nat} {b : Bool} (hg : gDst ops j = some g)
    (h : ∀ K' : Nat → KT, (∀ i d S' nx' ls ws, VG E N fz ops draw K r σ acc t g b (gTmp ops ⟨some t, op, ty, pos, af, some (j, b)⟩) (opTmps ⟨some t, op, ty, pos, af, some (j, b)⟩) i d S' nx' ls ws → K' i d S' nx' ls ws) →
      guardD (getT σ g) b (vop E (memN fz t) ((g, .v (.bool b)) :: σ) op S nx (K' 0)) (K' 1 .any S nx [] []) (K' 2 .any S nx [] [])) :
    VO E N fz ops draw K (⟨some t, op, ty, pos, af, some (j, b)⟩ :: r) σ S nx acc :=
  st_grd hg fun A B C a b' c => by
    have h' := h (fun i d S' nx' ls ws => match i with
      | 0 => vops E N fz ops draw K r ((t, d) :: (g, .v (.bool b)) :: σ) S' nx' (⟨gTmp ops ⟨some t, op, ty, pos, af, some (j, b)⟩ ++ opTmps ⟨some t, op, ty, pos, af, some (j, b)⟩, ls, [t], ws⟩ :: acc)
      | i + 1 => VG E N fz ops draw K r σ acc t g b (gTmp ops ⟨some t, op, ty, pos, af, some (j, b)⟩) (opTmps ⟨some t, op, ty, pos, af, some (j, b)⟩) (i + 1) d S' nx' ls ws) (by
        intro i d S' nx' ls ws hv
        cases i with
        | zero => exact VO.h hv
        | succ i => exact hv)
    unfold guardD at h' ⊢
    split at h'
    · exact ⟨fun e => a (h'.1 e), fun e => b' (h'.2 e)⟩
    · exact ⟨h'.1, c h'.2⟩
    · exact h'
theorem st4 {x : Operand} (h : ∀ K' : Nat → KT, (∀ i d S' nx' ls ws, VC E N fz c c' st Q i → K' i d S' nx' ls ws) → condD (evD Y.gl st.σ x) (K' 1 .any [] 0 [] []) (K' 0 .any [] 0 [] [])) : vcode E N fz (.cond x c c') st Q :=
  st_cond fun A B a b => by
    have h' := h (fun i _ _ _ _ _ => VC E N fz c c' st Q i) fun _ _ _ _ _ _ h => h
    unfold condD at h' ⊢
    split at h'
    · exact ⟨fun e => a (h'.1 e), fun e => b (h'.2 e)⟩
    · exact h'
/-- The end of a function with one result, and no objects of its own. -/
theorem Done.t1 {n t : Nat} {d : D} {σ : List (Nat × D)} {S : Store} {nx : Nat} {e : Exit} (h : subD (newOf []) (getT σ t) = d) (he : e = .normal ∨ e = .ret := by exact .inr rfl) : Done E n [.tmp t] d [] e ⟨σ, S, nx, []⟩ :=
  Done.mk he Into.refl rfl [] n (by simp [renB, injB]) h trivial rfl
theorem Done.t2 {n t u : Nat} {d : D} {σ : List (Nat × D)} {S : Store} {nx : Nat} {e : Exit} (h : D.tup [subD (newOf []) (getT σ t), subD (newOf []) (getT σ u)] = d) (he : e = .normal ∨ e = .ret := by exact .inr rfl) : Done E n [.tmp t, .tmp u] d [] e ⟨σ, S, nx, []⟩ :=
  Done.mk he Into.refl rfl [] n (by simp [renB, injB]) (by simpa [vRes, packD, subD, subL] using h) trivial rfl
end
end Go.Abs
