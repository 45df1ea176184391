/- Contracts of the functions that the statement reaches. -/
import Derived.Test.YtjgooecohepkoaaGreatDoorSAI
set_option linter.unusedVariables false
set_option linter.unusedSimpArgs false
namespace Go.Proofs.YtjgooecohepkoaaGreatDoor
open Go Go.Abs
/-! ### Closures, plain -/
theorem mem_ins {k : List (List UInt8)} {x s : List UInt8} : s ∈ ins k x ↔ s ∈ k ∨ s = x := by
  unfold ins
  split
  · rename_i h
    constructor
    · exact .inl
    · rintro (h' | rfl)
      · exact h'
      · exact h
  · simp
theorem mem_insAll {s : List UInt8} : ∀ {l k : List (List UInt8)}, s ∈ insAll k l ↔ s ∈ k ∨ s ∈ l
  | [], k => by simp [insAll]
  | x :: r, k => by
    have := mem_insAll (s := s) (l := r) (k := ins k x)
    simp only [insAll, List.foldl_cons] at this ⊢
    rw [this, mem_ins, List.mem_cons, or_assoc]
theorem growN_sub {l : List DP} {s : List UInt8} : ∀ (n : Nat) (k : List (List UInt8)), s ∈ k → s ∈ growN l n k
  | 0, _, h => h
  | n + 1, k, h => by
    simp only [growN]
    split
    · exact growN_sub n _ (by simp [h])
    · exact h
theorem growN_least {l : List DP} {P : List UInt8 → Prop} (hd : ∀ d ∈ l, (∀ s ∈ d.src, P s) → P d.dst) : ∀ (n : Nat) (k : List (List UInt8)), (∀ s ∈ k, P s) → ∀ s ∈ growN l n k, P s
  | 0, _, h => h
  | n + 1, k, h => by
    simp only [growN]
    split
    · rename_i x hx
      unfold grow1 at hx
      simp only [Option.map_eq_some_iff] at hx
      obtain ⟨d, hd', rfl⟩ := hx
      have hf := List.find?_some hd'
      simp only [fires, Bool.and_eq_true, List.all_eq_true, decide_eq_true_eq] at hf
      refine growN_least hd n _ fun s hs => ?_
      rcases List.mem_append.1 hs with hs | hs
      · exact h s hs
      · simp at hs
        rw [hs]
        exact hd d (List.mem_of_find?_eq_some hd') fun s hs => h s (hf.1 s hs)
    · exact h
theorem growN_fix {l : List DP} : ∀ (n : Nat) (k : List (List UInt8)), left l k ≤ n → grow1 l (growN l n k) = none
  | 0, k, h => by
    show grow1 l k = none
    exact grow1_left (by omega)
  | n + 1, k, h => by
    simp only [growN]
    split
    · rename_i x hx
      have := left_lt hx
      exact growN_fix n _ (by omega)
    · rename_i hx; exact hx
theorem grow1_none {l : List DP} {k : List (List UInt8)} (h : grow1 l k = none) : ∀ d ∈ l, (∀ s ∈ d.src, s ∈ k) → d.dst ∈ k := by
  intro d hd hs
  unfold grow1 at h
  simp only [Option.map_eq_none_iff, List.find?_eq_none] at h
  have := h d hd
  simp only [fires, Bool.and_eq_true, List.all_eq_true, decide_eq_true_eq, Bool.not_eq_true', decide_eq_false_iff_not, not_and, Classical.not_not] at this
  exact this hs
theorem closL_src {l : List DP} {src : List (List UInt8)} {s : List UInt8} (h : s ∈ src) : s ∈ closL l src := growN_sub _ _ (mem_insAll.2 (.inr h))
theorem closL_closed (l : List DP) (src : List (List UInt8)) : ∀ d ∈ l, (∀ s ∈ d.src, s ∈ closL l src) → d.dst ∈ closL l src := grow1_none (growN_fix _ _ (Nat.le_refl _))
theorem closL_least {l : List DP} {src : List (List UInt8)} {P : List UInt8 → Prop} (hs : ∀ s ∈ src, P s) (hd : ∀ d ∈ l, (∀ s ∈ d.src, P s) → P d.dst) : ∀ s ∈ closL l src, P s :=
  growN_least hd _ _ fun s h => by rcases mem_insAll.1 h with h | h; simp at h; exact hs s h
theorem closL_mono {l l' : List DP} (h : ∀ d ∈ l, d ∈ l') (src : List (List UInt8)) : ∀ s ∈ closL l src, s ∈ closL l' src :=
  closL_least (fun _ h => closL_src h) fun d hd hs => closL_closed l' src d (h d hd) hs
theorem mem_sortS {l : List (List UInt8)} {s : List UInt8} : s ∈ sortS l ↔ s ∈ l := (sortS_perm l).mem_iff
theorem insAll_append : ∀ (l k : List (List UInt8)), (k ++ l).Nodup → insAll k l = k ++ l
  | [], k, _ => by simp [insAll]
  | x :: r, k, h => by
    have hx : x ∉ k := by
      intro hx
      rw [List.nodup_append] at h
      exact h.2.2 x hx x (by simp) rfl
    have h2 : (k ++ [x] ++ r).Nodup := by simpa using h
    have := insAll_append r (k ++ [x]) h2
    simp only [insAll, List.foldl_cons, ins, hx, if_false] at this ⊢
    rw [this]
    simp
/-- A closure is closed: its closure is the same. -/
theorem closL_again (l : List DP) (src : List (List UInt8)) : sortS (closL l (sortS (closL l src))) = sortS (closL l src) := by
  have hn : (sortS (closL l src)).Nodup := (sortS_perm _).symm.nodup (closL_ok l src (fun _ => True) (fun _ _ => trivial) (fun _ _ => trivial)).1
  have h0 : insAll [] (sortS (closL l src)) = sortS (closL l src) := by simpa using insAll_append (sortS (closL l src)) [] (by simpa using hn)
  have hg : grow1 l (sortS (closL l src)) = none := by
    cases e : grow1 l (sortS (closL l src)) with
    | none => rfl
    | some x =>
      obtain ⟨h1, d, hd, rfl⟩ := grow1_new e
      exfalso
      apply h1
      unfold grow1 at e
      simp only [Option.map_eq_some_iff] at e
      obtain ⟨d', hd', he⟩ := e
      have hf := List.find?_some hd'
      simp only [fires, Bool.and_eq_true, List.all_eq_true, decide_eq_true_eq] at hf
      rw [← he, mem_sortS]
      exact closL_closed l src d' (List.mem_of_find?_eq_some hd') fun s hs => mem_sortS.1 (hf.1 s hs)
  have hc : closL l (sortS (closL l src)) = sortS (closL l src) := by
    unfold closL at h0 hg ⊢
    rw [h0]
    cases left l (sortS (growN l (left l (insAll [] src)) (insAll [] src))) with
    | zero => rfl
    | succ m => simp only [growN, hg]
  rw [hc]
  exact (sortS_unique (List.Perm.refl _) (sortS_pairwise _)).symm
/-- What dependencies that hold imply holds, too. -/
theorem implied {cols : List (List UInt8)} {rows : List (List Val)} {good : List DP} {src : List (List UInt8)} (hsq : ∀ r ∈ rows, r.length = cols.length) (hg : ∀ d ∈ good, HoldsP cols rows d) (hs : ∀ s ∈ src, s ∈ cols) {x : List UInt8} (hx : x ∈ closL good src) :
    HoldsP cols rows ⟨src, x⟩ := by
  have h : x ∈ cols ∧ ∀ (i j : Nat) a b, rows[i]? = some a → rows[j]? = some b → j < i → (∀ s ∈ src, a[ix cols s]? = b[ix cols s]?) → a[ix cols x]? = b[ix cols x]? := by
    refine closL_least (l := good) (src := src) (P := fun x => x ∈ cols ∧ ∀ (i j : Nat) a b, rows[i]? = some a → rows[j]? = some b → j < i → (∀ s ∈ src, a[ix cols s]? = b[ix cols s]?) → a[ix cols x]? = b[ix cols x]?) ?_ ?_ x hx
    · exact fun s h => ⟨hs s h, fun i j a b _ _ _ h' => h' s h⟩
    · intro d hd hP
      obtain ⟨h1, _, _, h4⟩ := hg d hd
      exact ⟨h1, fun i j a b ha hb hij h' => h4 i j a b ha hb hij fun s hs' => (hP s hs').2 i j a b ha hb hij h'⟩
  exact ⟨h.1, hsq, hs, h.2⟩
/-! ### Flat values -/
def FV.val (v : FV) : Val := .mk v.kind v.s v.dn v.ds v.num [] []
def valsOf (rs : List (List FV)) : List (List Val) := rs.map fun r => r.map FV.val
theorem cells_le (v : FV) : LeL v.cells (encV v.val) := by
  unfold FV.cells FV.val encV
  refine LeL.cons (LeD.refl _) (LeL.cons (LeD.refl _) (LeL.cons (LeD.refl _) (LeL.cons (LeD.refl _) (LeL.cons (LeD.refl _) (LeL.cons (LeD.nil 1) (LeL.cons (LeD.nil 1) LeL.nil))))))
theorem row_le (r : List FV) : LeD (rowD r) (rowV (r.map FV.val)) := by
  unfold rowD rowV
  refine LeD.sl (by simp) ?_ ?_
  · intro e he
    obtain ⟨v, _, rfl⟩ := List.mem_map.1 he
    exact encV_len v
  · intro i e e' h1 h2
    rw [List.getElem?_map] at h1 h2
    rw [List.getElem?_map] at h2
    cases hr : r[i]? with
    | none => rw [hr] at h1; cases h1
    | some v =>
      rw [hr] at h1 h2
      cases h1; cases h2
      exact cells_le v
theorem rows_le (rs : List (List FV)) : LeD (rowsD rs) (rowsV (valsOf rs)) := by
  unfold rowsD rowsV valsOf
  refine LeD.sl (by simp) ?_ ?_
  · intro e he
    obtain ⟨v, _, rfl⟩ := List.mem_map.1 he
    rfl
  · intro i e e' h1 h2
    rw [List.getElem?_map] at h1 h2
    rw [List.getElem?_map] at h2
    cases hr : rs[i]? with
    | none => rw [hr] at h1; cases h1
    | some v =>
      rw [hr] at h1 h2
      cases h1; cases h2
      exact LeL.cons (row_le v) LeL.nil
open Classical in
/-- Whether a dependency holds, of a made table. -/
theorem f26_flat (cols : List (List UInt8)) (rs : List (List FV)) (d : DP) (hsm : d.src.length ≤ 1000000) : FnOK sys 26 [strsD cols, rowsD rs, .agg d.cells] [] (.v (.bool (decide (HoldsP cols (valsOf rs) d)))) [] :=
  (f26_ok cols (valsOf rs) d hsm).leArgs (LeL.cons (LeD.refl _) (LeL.cons (rows_le rs) (LeL.cons (LeD.refl _) LeL.nil)))
theorem mRows_sq (L : List Int) : ∀ r ∈ valsOf ((List.range (mRows L)).map (mRow L)), r.length = (names4.take (mMany L)).length := by
  intro r hr
  simp only [valsOf, List.map_map, List.mem_map] at hr
  obtain ⟨q, _, rfl⟩ := hr
  have h := nextV_pos L 0 (n := 4) (by omega)
  have : mMany L ≤ 4 := by unfold mMany; omega
  simp only [Function.comp, mRow, List.length_map, List.length_range, List.length_take, names4, List.length_cons, List.length_nil]
  omega
theorem names4_le : ∀ s ∈ names4, s.length ≤ 7 := by decide
theorem dName_le (L : List Int) (i : Nat) : (dName L i).length ≤ 7 := by
  have h := nextV_pos L i (n := 5) (by omega)
  unfold dName
  obtain ⟨m, hm⟩ : ∃ m, (nextV L i 5).toNat = m := ⟨_, rfl⟩
  rw [hm]
  have : m < 5 := by omega
  rcases m with _ | _ | _ | _ | _ | m <;> first | (simp [names5]; done) | omega
theorem dOf_le (L : List Int) : (dOf L).src.length ≤ 3 ∧ (dOf L).dst.length ≤ 7 ∧ ∀ s ∈ (dOf L).src, s.length ≤ 7 := by
  refine ⟨?_, dName_le L 0, ?_⟩
  · have h := nextV_pos L 1 (n := 4) (by omega)
    simp only [dOf, List.length_map, List.length_range, dMany]; omega
  · intro s hs
    simp only [dOf, List.mem_map] at hs
    obtain ⟨j, _, rfl⟩ := hs
    exact dName_le _ _
theorem allOf_le (l : List (List Int)) : (allOf l).length ≤ 8 ∧ ∀ d ∈ allOf l, d.src.length ≤ 3 ∧ d.dst.length ≤ 7 ∧ ∀ s ∈ d.src, s.length ≤ 7 := by
  refine ⟨by simp [allOf]; omega, ?_⟩
  intro d hd
  obtain ⟨x, _, rfl⟩ := List.mem_map.1 hd
  exact dOf_le x
open Classical in
/-- The dependencies that hold. -/
noncomputable def goodOf (cols : List (List UInt8)) (rows : List (List Val)) (l : List DP) : List DP := l.filter fun d => decide (HoldsP cols rows d)
end Go.Proofs.YtjgooecohepkoaaGreatDoor
