/- Contracts of the functions that the statement reaches. -/
import Derived.Test.YtjgooecohepkoaaGreatDoorSAF
set_option linter.unusedVariables false
set_option linter.unusedSimpArgs false
namespace Go.Proofs.YtjgooecohepkoaaGreatDoor
open Go Go.Abs
set_option linter.unusedSimpArgs false
theorem W.boundA {Y : Sy} {E : Env Y} {st : St} {Q : Exit → St → Prop} {c : Code} (t i : Nat) {cs : List D} {es : List (List D)} {sz : Nat} (ht : getT st.σ t = .agg cs) (hc : cs[i]? = some (.sl es sz)) (h : es.length ≤ maxLen → W E c st Q) : W E c st Q := fun a w g hs => by
  have := hs.tm t
  rw [ht] at this
  simp only [Rep] at this
  obtain ⟨vs, _, hl⟩ := this
  obtain ⟨x, _, hx⟩ := hl.get hc
  simp only [Rep] at hx
  obtain ⟨_, c, _, h1, h2, _⟩ := hx
  exact h (by omega) a w g hs
theorem idxFrom_lt {α : Type} [DecidableEq α] (x : α) : ∀ (l : List α) (k : Nat), x ∈ l → ∃ n : Nat, idxFrom l x k = n ∧ n < k + l.length
  | [], _, h => by simp at h
  | y :: r, k, h => by
    unfold idxFrom
    by_cases e : x = y
    · rw [if_pos e]; exact ⟨k, rfl, by simp⟩
    · rw [if_neg e]
      obtain ⟨n, h1, h2⟩ := idxFrom_lt x r (k + 1) (by simpa [e] using h)
      exact ⟨n, h1, by simp; omega⟩
/-- The place of a name that is there. -/
def ix (cols : List (List UInt8)) (s : List UInt8) : Nat := (idxFrom cols s 0).toNat
theorem ix_eq {cols : List (List UInt8)} {s : List UInt8} (h : s ∈ cols) : idxFrom cols s 0 = (ix cols s : Int) ∧ ix cols s < cols.length := by
  obtain ⟨n, h1, h2⟩ := idxFrom_lt s cols 0 h
  unfold ix
  rw [h1]
  exact ⟨by simp, by simp; omega⟩
theorem ix_neg {cols : List (List UInt8)} {s : List UInt8} (h : s ∉ cols) : idxFrom cols s 0 < 0 := by
  have := mt (idxFrom_iff s cols 0).1 h
  omega
/-- Rows that are equal in some columns are equal in another one. -/
def HoldsP (cols : List (List UInt8)) (rows : List (List Val)) (d : DP) : Prop :=
  d.dst ∈ cols ∧ (∀ r ∈ rows, r.length = cols.length) ∧ (∀ s ∈ d.src, s ∈ cols) ∧
    ∀ (i j : Nat) a b, rows[i]? = some a → rows[j]? = some b → j < i → (∀ s ∈ d.src, a[ix cols s]? = b[ix cols s]?) → a[ix cols d.dst]? = b[ix cols d.dst]?
open Classical in
theorem f26_ok (cols : List (List UInt8)) (rows : List (List Val)) (d : DP) (hsm : d.src.length ≤ 1000000) : FnOK sys 26 [strsD cols, rowsV rows, .agg d.cells] [] (.v (.bool (decide (HoldsP cols rows d)))) [] := by
  refine FnOK.intro Tryz.f26 (by kernel_rfl) rfl rfl [.tmp 6] rfl 0 rfl (Nat.le_of_ble_eq_true rfl) rfl rfl fun E hN h0 => W.bound 1 rfl fun hb => W.boundA 2 0 rfl rfl fun hb2 => W.code (N := 80) [5, 43] hN ?_
  simp only [List.length_map, maxLen] at hb hb2
  repeat (first | refine st_end rfl ?_ | ((first | refine st_op fun K k => ?_ | refine st_op0 fun K k => ?_ | refine st_opT fun K k => ?_ | refine st_grd rfl fun A B C k k' k2 => ?_ | refine st_cond fun A B k k' => ?_); simp only [go_sem, reduceIte, Nat.reduceEqDiff, Nat.reduceAdd, Nat.reduceMul, Nat.reduceSub, Nat.reduceLT, Nat.reduceLeDiff, Int.reduceToNat, reduceCtorEq, Int.reduceEq, Int.reduceBEq, Int.reduceLE, Int.reduceLT, DP.cells]; first | (refine k _ _ _ _ _ ?_; clear k K) | (refine k ?_; clear k k' k2 A B C) | (refine k' ?_; clear k k' k2 A B C) | (refine k2 ?_; clear k k' k2 A B C) | (refine k ?_; clear k k' A B) | (refine k' ?_; clear k k' A B)))
  refine st_op fun K k => ?_
  simp only [go_sem, reduceIte, Nat.reduceEqDiff, Nat.reduceAdd, Nat.reduceMul, Nat.reduceSub, Nat.reduceLT, Nat.reduceLeDiff, Int.reduceToNat, reduceCtorEq, Int.reduceEq, Int.reduceBEq, Int.reduceLE, Int.reduceLT]
  refine callP (f52_ok cols d.dst) ?_
  refine k _ _ _ _ _ ?_; clear k K
  by_cases hto : d.dst ∈ cols
  case neg =>
    have q1 := ix_neg hto
    repeat (first | refine st_end rfl ?_ | ((first | refine st_op fun K k => ?_ | refine st_op0 fun K k => ?_ | refine st_opT fun K k => ?_ | refine st_grd rfl fun A B C k k' k2 => ?_ | refine st_cond fun A B k k' => ?_); simp only [go_sem, reduceIte, Nat.reduceEqDiff, Nat.reduceAdd, Nat.reduceMul, Nat.reduceSub, Nat.reduceLT, Nat.reduceLeDiff, Int.reduceToNat, reduceCtorEq, Int.reduceEq, Int.reduceBEq, Int.reduceLE, Int.reduceLT, q1, decide_true]; first | (refine k _ _ _ _ _ ?_; clear k K) | (refine k ?_; clear k k' k2 A B C) | (refine k' ?_; clear k k' k2 A B C) | (refine k2 ?_; clear k k' k2 A B C) | (refine k ?_; clear k k' A B) | (refine k' ?_; clear k k' A B)))
    refine Done.mk (.inr rfl) Into.refl ?_ [] 0 ?_ ?_ ?_ ?_
    · rfl
    · rfl
    · simp only [go_sem, reduceIte, Nat.reduceEqDiff, Nat.reduceAdd, Nat.reduceMul, Nat.reduceSub, Nat.reduceLT, Nat.reduceLeDiff, Int.reduceToNat, reduceCtorEq, Int.reduceEq, Int.reduceBEq, Int.reduceLE, Int.reduceLT]
      simp [HoldsP, hto]
    · trivial
    · rfl
  obtain ⟨q1, q2⟩ := ix_eq hto
  have q3 : ¬ ((ix cols d.dst : Int) < 0) := by omega
  repeat (first | refine st_end rfl ?_ | ((first | refine st_op fun K k => ?_ | refine st_op0 fun K k => ?_ | refine st_opT fun K k => ?_ | refine st_grd rfl fun A B C k k' k2 => ?_ | refine st_cond fun A B k k' => ?_); simp only [go_sem, reduceIte, Nat.reduceEqDiff, Nat.reduceAdd, Nat.reduceMul, Nat.reduceSub, Nat.reduceLT, Nat.reduceLeDiff, Int.reduceToNat, reduceCtorEq, Int.reduceEq, Int.reduceBEq, Int.reduceLE, Int.reduceLT, q1, q3, decide_false]; first | (refine k _ _ _ _ _ ?_; clear k K) | (refine k ?_; clear k k' k2 A B C) | (refine k' ?_; clear k k' k2 A B C) | (refine k2 ?_; clear k k' k2 A B C) | (refine k ?_; clear k k' A B) | (refine k' ?_; clear k k' A B)))
  refine st_opT fun K k => ?_
  simp only [go_sem, reduceIte, Nat.reduceEqDiff, Nat.reduceAdd, Nat.reduceMul, Nat.reduceSub, Nat.reduceLT, Nat.reduceLeDiff, Int.reduceToNat, reduceCtorEq, Int.reduceEq, Int.reduceBEq, Int.reduceLE, Int.reduceLT]
  refine callP (f71_ok cols rows) ?_
  refine k _ _ _ _ _ ?_; clear k K
  cases hsq : rows.all fun r => decide (r.length = cols.length) with
  | false =>
    repeat (first | refine st_end rfl ?_ | ((first | refine st_op fun K k => ?_ | refine st_op0 fun K k => ?_ | refine st_opT fun K k => ?_ | refine st_grd rfl fun A B C k k' k2 => ?_ | refine st_cond fun A B k k' => ?_); simp only [go_sem, reduceIte, Nat.reduceEqDiff, Nat.reduceAdd, Nat.reduceMul, Nat.reduceSub, Nat.reduceLT, Nat.reduceLeDiff, Int.reduceToNat, reduceCtorEq, Int.reduceEq, Int.reduceBEq, Int.reduceLE, Int.reduceLT]; first | (refine k _ _ _ _ _ ?_; clear k K) | (refine k ?_; clear k k' k2 A B C) | (refine k' ?_; clear k k' k2 A B C) | (refine k2 ?_; clear k k' k2 A B C) | (refine k ?_; clear k k' A B) | (refine k' ?_; clear k k' A B)))
    refine Done.mk (.inr rfl) Into.refl ?_ [] 0 ?_ ?_ ?_ ?_
    · rfl
    · rfl
    · simp only [go_sem, reduceIte, Nat.reduceEqDiff, Nat.reduceAdd, Nat.reduceMul, Nat.reduceSub, Nat.reduceLT, Nat.reduceLeDiff, Int.reduceToNat, reduceCtorEq, Int.reduceEq, Int.reduceBEq, Int.reduceLE, Int.reduceLT]
      have : ¬ ∀ r ∈ rows, r.length = cols.length := by
        intro h
        have : (rows.all fun r => decide (r.length = cols.length)) = true := by rw [List.all_eq_true]; intro r hr; simpa using h r hr
        rw [hsq] at this; cases this
      simp [HoldsP, this]
    · trivial
    · rfl
  | true =>
    have hsq' : ∀ r ∈ rows, r.length = cols.length := by
      intro r hr
      rw [List.all_eq_true] at hsq
      simpa using hsq r hr
    clear hsq
    repeat (first | refine st_end rfl ?_ | ((first | refine st_op fun K k => ?_ | refine st_op0 fun K k => ?_ | refine st_opT fun K k => ?_ | refine st_grd rfl fun A B C k k' k2 => ?_ | refine st_cond fun A B k k' => ?_); simp only [go_sem, reduceIte, Nat.reduceEqDiff, Nat.reduceAdd, Nat.reduceMul, Nat.reduceSub, Nat.reduceLT, Nat.reduceLeDiff, Int.reduceToNat, reduceCtorEq, Int.reduceEq, Int.reduceBEq, Int.reduceLE, Int.reduceLT]; first | (refine k _ _ _ _ _ ?_; clear k K) | (refine k ?_; clear k k' k2 A B C) | (refine k' ?_; clear k k' k2 A B C) | (refine k2 ?_; clear k k' k2 A B C) | (refine k ?_; clear k k' A B) | (refine k' ?_; clear k k' A B)))
    refine W.loopP (fun i : Nat => ⟨[(0, strsD cols), (1, rowsV rows), (7, .v (.int .i64 (ix cols d.dst))), (8, .own 0 i), (30, strsD d.src), (31, .v (.int .i64 d.src.length)), (32, .v (.int .i64 i))],
        [(0, .row 3 1 ((d.src.take i).map fun s => [.v (.int .i64 (ix cols s))]))], 1, []⟩)
      (fun i => i ≤ d.src.length ∧ ∀ s ∈ d.src.take i, s ∈ cols) (fun i => d.src.length - i) 0 ⟨by omega, by simp⟩
      ((Into.nilRow 8 3 1 rfl).trans (Into.le ?_ ?_ (Nat.le_refl _) rfl)) fun i hi => W.code (N := 80) [5, 43] hN ?_
    · simp only [go_sem, reduceIte, Nat.reduceEqDiff, Nat.reduceAdd, Nat.reduceMul, Nat.reduceSub, Nat.reduceLT, Nat.reduceLeDiff, Int.reduceToNat, reduceCtorEq, Int.reduceEq, Int.reduceBEq, Int.reduceLE, Int.reduceLT]
      exact LeD.refl _
    · simp only [go_sem, reduceIte, Nat.reduceEqDiff, Nat.reduceAdd, Nat.reduceMul, Nat.reduceSub, Nat.reduceLT, Nat.reduceLeDiff, Int.reduceToNat, reduceCtorEq, Int.reduceEq, Int.reduceBEq, Int.reduceLE, Int.reduceLT]
    repeat (first | refine st_end rfl ?_ | ((first | refine st_op fun K k => ?_ | refine st_op0 fun K k => ?_ | refine st_opT fun K k => ?_ | refine st_grd rfl fun A B C k k' k2 => ?_ | refine st_cond fun A B k k' => ?_); simp only [go_sem, reduceIte, Nat.reduceEqDiff, Nat.reduceAdd, Nat.reduceMul, Nat.reduceSub, Nat.reduceLT, Nat.reduceLeDiff, Int.reduceToNat, reduceCtorEq, Int.reduceEq, Int.reduceBEq, Int.reduceLE, Int.reduceLT]; first | (refine k _ _ _ _ _ ?_; clear k K) | (refine k ?_; clear k k' k2 A B C) | (refine k' ?_; clear k k' k2 A B C) | (refine k2 ?_; clear k k' k2 A B C) | (refine k ?_; clear k k' A B) | (refine k' ?_; clear k k' A B)))
    refine st_cond fun A B a b => ?_; simp only [go_sem, reduceIte, Nat.reduceEqDiff, Nat.reduceAdd, Nat.reduceMul, Nat.reduceSub, Nat.reduceLT, Nat.reduceLeDiff, Int.reduceToNat, reduceCtorEq, Int.reduceEq, Int.reduceBEq, Int.reduceLE, Int.reduceLT]; refine ⟨fun g => a ?_, fun g => b ?_⟩ <;> clear a b A B
    · obtain ⟨s, hs⟩ := getS (l := d.src) (i := i) (by omega)
      repeat (first | refine st_end rfl ?_ | ((first | refine st_op fun K k => ?_ | refine st_op0 fun K k => ?_ | refine st_opT fun K k => ?_ | refine st_grd rfl fun A B C k k' k2 => ?_ | refine st_cond fun A B k k' => ?_); simp only [go_sem, reduceIte, Nat.reduceEqDiff, Nat.reduceAdd, Nat.reduceMul, Nat.reduceSub, Nat.reduceLT, Nat.reduceLeDiff, Int.reduceToNat, reduceCtorEq, Int.reduceEq, Int.reduceBEq, Int.reduceLE, Int.reduceLT, hs]; first | (refine k _ _ _ _ _ ?_; clear k K) | (refine k ?_; clear k k' k2 A B C) | (refine k' ?_; clear k k' k2 A B C) | (refine k2 ?_; clear k k' k2 A B C) | (refine k ?_; clear k k' A B) | (refine k' ?_; clear k k' A B)))
      refine st_op fun K k => ?_
      simp only [go_sem, reduceIte, Nat.reduceEqDiff, Nat.reduceAdd, Nat.reduceMul, Nat.reduceSub, Nat.reduceLT, Nat.reduceLeDiff, Int.reduceToNat, reduceCtorEq, Int.reduceEq, Int.reduceBEq, Int.reduceLE, Int.reduceLT]
      refine callP (f52_ok cols s) ?_
      refine k _ _ _ _ _ ?_; clear k K
      by_cases hsc : s ∈ cols
      case neg =>
        have u1 := ix_neg hsc
        repeat (first | refine st_end rfl ?_ | ((first | refine st_op fun K k => ?_ | refine st_op0 fun K k => ?_ | refine st_opT fun K k => ?_ | refine st_grd rfl fun A B C k k' k2 => ?_ | refine st_cond fun A B k k' => ?_); simp only [go_sem, reduceIte, Nat.reduceEqDiff, Nat.reduceAdd, Nat.reduceMul, Nat.reduceSub, Nat.reduceLT, Nat.reduceLeDiff, Int.reduceToNat, reduceCtorEq, Int.reduceEq, Int.reduceBEq, Int.reduceLE, Int.reduceLT, u1, decide_true]; first | (refine k _ _ _ _ _ ?_; clear k K) | (refine k ?_; clear k k' k2 A B C) | (refine k' ?_; clear k k' k2 A B C) | (refine k2 ?_; clear k k' k2 A B C) | (refine k ?_; clear k k' A B) | (refine k' ?_; clear k k' A B)))
        refine iq Into.refl (Done.mk (.inr rfl) Into.refl ?_ [] 0 ?_ ?_ ?_ ?_)
        · rfl
        · rfl
        · simp only [go_sem, reduceIte, Nat.reduceEqDiff, Nat.reduceAdd, Nat.reduceMul, Nat.reduceSub, Nat.reduceLT, Nat.reduceLeDiff, Int.reduceToNat, reduceCtorEq, Int.reduceEq, Int.reduceBEq, Int.reduceLE, Int.reduceLT]
          have : ¬ ∀ s ∈ d.src, s ∈ cols := fun h => hsc (h s (List.mem_of_getElem? hs))
          simp [HoldsP, this]
        · trivial
        · rfl
      obtain ⟨u1, u2⟩ := ix_eq hsc
      have u3 : ¬ ((ix cols s : Int) < 0) := by omega
      have e1 : (d.src.take i).length = i := by simp; omega
      have e2 : i + 1 ≤ maxLen := by unfold maxLen; omega
      have e3 : (i + 1) * 8 ≤ 140737488355328 := by omega
      have w5 : IntKind.wrap .i64 ((i : Int) + 1) = ((i + 1 : Nat) : Int) := wrapTo (by omega)
      repeat (first | refine st_end rfl ?_ | ((first | refine st_op fun K k => ?_ | refine st_op0 fun K k => ?_ | refine st_opT fun K k => ?_ | refine st_grd rfl fun A B C k k' k2 => ?_ | refine st_cond fun A B k k' => ?_); simp only [go_sem, reduceIte, Nat.reduceEqDiff, Nat.reduceAdd, Nat.reduceMul, Nat.reduceSub, Nat.reduceLT, Nat.reduceLeDiff, Int.reduceToNat, reduceCtorEq, Int.reduceEq, Int.reduceBEq, Int.reduceLE, Int.reduceLT, u1, u3, decide_false, e1, e2, e3, w5]; first | (refine k _ _ _ _ _ ?_; clear k K) | (refine k ?_; clear k k' k2 A B C) | (refine k' ?_; clear k k' k2 A B C) | (refine k2 ?_; clear k k' k2 A B C) | (refine k ?_; clear k k' A B) | (refine k' ?_; clear k k' A B)))
      have e5 : d.src.take (i + 1) = d.src.take i ++ [s] := by rw [List.take_add_one, hs]; rfl
      refine ⟨i + 1, ⟨by omega, ?_⟩, by omega, (Into.ren h0 [(0, 1)] 1 rfl).trans (Into.le ?_ ?_ (Nat.le_refl _) rfl)⟩
      · rw [e5]
        intro q hq
        rcases List.mem_append.1 hq with hq | hq
        · exact hi.2 q hq
        · simp at hq; rw [hq]; exact hsc
      · simp only [go_sem, reduceIte, Nat.reduceEqDiff, Nat.reduceAdd, Nat.reduceMul, Nat.reduceSub, Nat.reduceLT, Nat.reduceLeDiff, Int.reduceToNat, reduceCtorEq, Int.reduceEq, Int.reduceBEq, Int.reduceLE, Int.reduceLT, newOf]
      · simp only [go_sem, reduceIte, Nat.reduceEqDiff, Nat.reduceAdd, Nat.reduceMul, Nat.reduceSub, Nat.reduceLT, Nat.reduceLeDiff, Int.reduceToNat, reduceCtorEq, Int.reduceEq, Int.reduceBEq, Int.reduceLE, Int.reduceLT, newOf, e5]
    · obtain rfl : i = d.src.length := by omega
      have hsrc : ∀ s ∈ d.src, s ∈ cols := by
        have := hi.2
        rwa [List.take_of_length_le (Nat.le_refl _)] at this
      clear hi
      refine iq (Into.frz [0] ?_) ?_
      · simp only [go_sem, reduceIte, Nat.reduceEqDiff, Nat.reduceAdd, Nat.reduceMul, Nat.reduceSub, Nat.reduceLT, Nat.reduceLeDiff, Int.reduceToNat, reduceCtorEq, Int.reduceEq, Int.reduceBEq, Int.reduceLE, Int.reduceLT]
        intro e he; obtain ⟨q, _, rfl⟩ := List.mem_map.1 he; rfl
      have e1 : d.src.take d.src.length = d.src := List.take_of_length_le (Nat.le_refl _)
      repeat (first | refine st_end rfl ?_ | ((first | refine st_op fun K k => ?_ | refine st_op0 fun K k => ?_ | refine st_opT fun K k => ?_ | refine st_grd rfl fun A B C k k' k2 => ?_ | refine st_cond fun A B k k' => ?_); simp only [go_sem, reduceIte, Nat.reduceEqDiff, Nat.reduceAdd, Nat.reduceMul, Nat.reduceSub, Nat.reduceLT, Nat.reduceLeDiff, Int.reduceToNat, reduceCtorEq, Int.reduceEq, Int.reduceBEq, Int.reduceLE, Int.reduceLT, e1]; first | (refine k _ _ _ _ _ ?_; clear k K) | (refine k ?_; clear k k' k2 A B C) | (refine k' ?_; clear k k' k2 A B C) | (refine k2 ?_; clear k k' k2 A B C) | (refine k ?_; clear k k' A B) | (refine k' ?_; clear k k' A B)))
      refine W.loopP (fun i : Nat => ⟨[(1, rowsV rows), (7, .v (.int .i64 (ix cols d.dst))), (8, ints (d.src.map fun s => (ix cols s : Int))), (46, rowsV rows), (47, .v (.int .i64 rows.length)), (48, .v (.int .i64 i))], [], 0, []⟩)
        (fun i => i ≤ rows.length ∧ ∀ i' j a b, i' < i → rows[i']? = some a → rows[j]? = some b → j < i' → (∀ s ∈ d.src, a[ix cols s]? = b[ix cols s]?) → a[ix cols d.dst]? = b[ix cols d.dst]?) (fun i => rows.length - i) 0 ⟨by omega, by omega⟩
        ((Into.ren h0 [] 0 rfl).trans (Into.le ?_ trivial (Nat.le_refl _) rfl)) fun i hi => W.code (N := 80) [5, 43] hN ?_
      · simp only [go_sem, reduceIte, Nat.reduceEqDiff, Nat.reduceAdd, Nat.reduceMul, Nat.reduceSub, Nat.reduceLT, Nat.reduceLeDiff, Int.reduceToNat, reduceCtorEq, Int.reduceEq, Int.reduceBEq, Int.reduceLE, Int.reduceLT, newOf, e1]
        exact LeD.refl _
      repeat (first | refine st_end rfl ?_ | ((first | refine st_op fun K k => ?_ | refine st_op0 fun K k => ?_ | refine st_opT fun K k => ?_ | refine st_grd rfl fun A B C k k' k2 => ?_ | refine st_cond fun A B k k' => ?_); simp only [go_sem, reduceIte, Nat.reduceEqDiff, Nat.reduceAdd, Nat.reduceMul, Nat.reduceSub, Nat.reduceLT, Nat.reduceLeDiff, Int.reduceToNat, reduceCtorEq, Int.reduceEq, Int.reduceBEq, Int.reduceLE, Int.reduceLT]; first | (refine k _ _ _ _ _ ?_; clear k K) | (refine k ?_; clear k k' k2 A B C) | (refine k' ?_; clear k k' k2 A B C) | (refine k2 ?_; clear k k' k2 A B C) | (refine k ?_; clear k k' A B) | (refine k' ?_; clear k k' A B)))
      refine st_cond fun A B a b => ?_; simp only [go_sem, reduceIte, Nat.reduceEqDiff, Nat.reduceAdd, Nat.reduceMul, Nat.reduceSub, Nat.reduceLT, Nat.reduceLeDiff, Int.reduceToNat, reduceCtorEq, Int.reduceEq, Int.reduceBEq, Int.reduceLE, Int.reduceLT]; refine ⟨fun g => a ?_, fun g => b ?_⟩ <;> clear a b A B
      · obtain ⟨a, ha⟩ := getS (l := rows) (i := i) (by omega)
        have v1 : (i : Int) ≤ rows.length := by omega
        repeat (first | refine st_end rfl ?_ | ((first | refine st_op fun K k => ?_ | refine st_op0 fun K k => ?_ | refine st_opT fun K k => ?_ | refine st_grd rfl fun A B C k k' k2 => ?_ | refine st_cond fun A B k k' => ?_); simp only [go_sem, reduceIte, Nat.reduceEqDiff, Nat.reduceAdd, Nat.reduceMul, Nat.reduceSub, Nat.reduceLT, Nat.reduceLeDiff, Int.reduceToNat, reduceCtorEq, Int.reduceEq, Int.reduceBEq, Int.reduceLE, Int.reduceLT, ha, v1, List.length_take]; first | (refine k _ _ _ _ _ ?_; clear k K) | (refine k ?_; clear k k' k2 A B C) | (refine k' ?_; clear k k' k2 A B C) | (refine k2 ?_; clear k k' k2 A B C) | (refine k ?_; clear k k' A B) | (refine k' ?_; clear k k' A B)))
        have hal : a.length = cols.length := hsq' a (List.mem_of_getElem? ha)
        refine W.loopP (fun j : Nat => ⟨[(1, rowsV rows), (7, .v (.int .i64 (ix cols d.dst))), (8, ints (d.src.map fun s => (ix cols s : Int))), (46, rowsV rows), (47, .v (.int .i64 rows.length)), (48, .v (.int .i64 i)),
            (13, .ep [rowV a]), (55, rowsV (rows.take i)), (56, .v (.int .i64 i)), (57, .v (.int .i64 j))], [], 1, []⟩)
          (fun j => j ≤ i ∧ ∀ j' b, j' < j → rows[j']? = some b → (∀ s ∈ d.src, a[ix cols s]? = b[ix cols s]?) → a[ix cols d.dst]? = b[ix cols d.dst]?) (fun j => i - j) 0 ⟨by omega, by omega⟩
          ((Into.frz [0] ?_).trans (Into.le ?_ trivial (Nat.le_refl _) rfl)) fun j hj => W.code (N := 80) [5, 43] hN ?_
        · simp only [go_sem, reduceIte, Nat.reduceEqDiff, Nat.reduceAdd, Nat.reduceMul, Nat.reduceSub, Nat.reduceLT, Nat.reduceLeDiff, Int.reduceToNat, reduceCtorEq, Int.reduceEq, Int.reduceBEq, Int.reduceLE, Int.reduceLT]
        · simp only [go_sem, reduceIte, Nat.reduceEqDiff, Nat.reduceAdd, Nat.reduceMul, Nat.reduceSub, Nat.reduceLT, Nat.reduceLeDiff, Int.reduceToNat, reduceCtorEq, Int.reduceEq, Int.reduceBEq, Int.reduceLE, Int.reduceLT]
          rw [← List.map_take, Nat.min_eq_left hi.1]
          exact ⟨LeD.refl _, LeD.refl _, LeD.refl _⟩
        repeat (first | refine st_end rfl ?_ | ((first | refine st_op fun K k => ?_ | refine st_op0 fun K k => ?_ | refine st_opT fun K k => ?_ | refine st_grd rfl fun A B C k k' k2 => ?_ | refine st_cond fun A B k k' => ?_); simp only [go_sem, reduceIte, Nat.reduceEqDiff, Nat.reduceAdd, Nat.reduceMul, Nat.reduceSub, Nat.reduceLT, Nat.reduceLeDiff, Int.reduceToNat, reduceCtorEq, Int.reduceEq, Int.reduceBEq, Int.reduceLE, Int.reduceLT]; first | (refine k _ _ _ _ _ ?_; clear k K) | (refine k ?_; clear k k' k2 A B C) | (refine k' ?_; clear k k' k2 A B C) | (refine k2 ?_; clear k k' k2 A B C) | (refine k ?_; clear k k' A B) | (refine k' ?_; clear k k' A B)))
        refine st_cond fun A B a b => ?_; simp only [go_sem, reduceIte, Nat.reduceEqDiff, Nat.reduceAdd, Nat.reduceMul, Nat.reduceSub, Nat.reduceLT, Nat.reduceLeDiff, Int.reduceToNat, reduceCtorEq, Int.reduceEq, Int.reduceBEq, Int.reduceLE, Int.reduceLT]; refine ⟨fun g => a ?_, fun g => b ?_⟩ <;> clear a b A B
        · have hji : j < i := by omega
          obtain ⟨b, hb'⟩ := getS (l := rows) (i := j) (by omega)
          have hbl : b.length = cols.length := hsq' b (List.mem_of_getElem? hb')
          have hb2' : (rows.take i)[j]? = some b := by rw [List.getElem?_take, if_pos hji, hb']
          repeat (first | refine st_end rfl ?_ | ((first | refine st_op fun K k => ?_ | refine st_op0 fun K k => ?_ | refine st_opT fun K k => ?_ | refine st_grd rfl fun A B C k k' k2 => ?_ | refine st_cond fun A B k k' => ?_); simp only [go_sem, reduceIte, Nat.reduceEqDiff, Nat.reduceAdd, Nat.reduceMul, Nat.reduceSub, Nat.reduceLT, Nat.reduceLeDiff, Int.reduceToNat, reduceCtorEq, Int.reduceEq, Int.reduceBEq, Int.reduceLE, Int.reduceLT, hb2']; first | (refine k _ _ _ _ _ ?_; clear k K) | (refine k ?_; clear k k' k2 A B C) | (refine k' ?_; clear k k' k2 A B C) | (refine k2 ?_; clear k k' k2 A B C) | (refine k ?_; clear k k' A B) | (refine k' ?_; clear k k' A B)))
          have hcall : FnOK sys 72 [ints (d.src.map fun s => (ix cols s : Int)), .fn (.func 73) [] [.ep [rowV a], .ref 1 0]] [(1, .box [rowV b])] (.v (.bool ((d.src.map fun s => (ix cols s : Int)).any fun x => !decide (a[x.toNat]? = b[x.toNat]?)))) [(1, .box [rowV b])] := by
            refine FnOK.lend 3 (f72_ok 73 [.ep [rowV a], .ep [rowV b]] rfl _ (fun x => !decide (a[x.toNat]? = b[x.toNat]?)) ?_) rfl
            intro x hx
            obtain ⟨s, hs, rfl⟩ := List.mem_map.1 hx
            obtain ⟨_, hlt⟩ := ix_eq (hsrc s hs)
            obtain ⟨xa, hxa⟩ := getS (l := a) (i := ix cols s) (by omega)
            obtain ⟨xb, hxb⟩ := getS (l := b) (i := ix cols s) (by omega)
            have := f73_ok a b (ix cols s) xa xb hxa hxb
            have e : (!decide (a[((ix cols s : Nat) : Int).toNat]? = b[((ix cols s : Nat) : Int).toNat]?)) = !decide (xa = xb) := by
              rw [Int.toNat_natCast, hxa, hxb, Bool.eq_iff_iff]; simp
            simp only [e]
            exact this
          refine st_op fun K k => ?_
          simp only [go_sem, reduceIte, Nat.reduceEqDiff, Nat.reduceAdd, Nat.reduceMul, Nat.reduceSub, Nat.reduceLT, Nat.reduceLeDiff, Int.reduceToNat, reduceCtorEq, Int.reduceEq, Int.reduceBEq, Int.reduceLE, Int.reduceLT]
          simp only [ints, rowV, List.map_map, Function.comp_def] at hcall
          refine callK hcall (by simp only [go_sem, reduceIte, Nat.reduceEqDiff, Nat.reduceAdd, Nat.reduceMul, Nat.reduceSub, Nat.reduceLT, Nat.reduceLeDiff, Int.reduceToNat, reduceCtorEq, Int.reduceEq, Int.reduceBEq, Int.reduceLE, Int.reduceLT]) ?_
          simp only [go_sem, reduceIte, Nat.reduceEqDiff, Nat.reduceAdd, Nat.reduceMul, Nat.reduceSub, Nat.reduceLT, Nat.reduceLeDiff, Int.reduceToNat, reduceCtorEq, Int.reduceEq, Int.reduceBEq, Int.reduceLE, Int.reduceLT]
          refine k _ _ _ _ _ ?_; clear k K
          obtain ⟨ta, hta⟩ := getS (l := a) (i := ix cols d.dst) (by omega)
          obtain ⟨tb, htb⟩ := getS (l := b) (i := ix cols d.dst) (by omega)
          have w5 : IntKind.wrap .i64 ((j : Int) + 1) = ((j + 1 : Nat) : Int) := wrapTo (by omega)
          have hiff : (((d.src.map fun s => (ix cols s : Int)).any fun x => !decide (a[x.toNat]? = b[x.toNat]?)) = false) ↔ ∀ s ∈ d.src, a[ix cols s]? = b[ix cols s]? := by
            rw [List.any_eq_false]
            constructor
            · intro h s hs
              have := h _ (List.mem_map.2 ⟨s, hs, rfl⟩)
              simpa using this
            · intro h x hx
              obtain ⟨s, hs, rfl⟩ := List.mem_map.1 hx
              simpa using h s hs
          cases hany : ((d.src.map fun s => (ix cols s : Int)).any fun x => !decide (a[x.toNat]? = b[x.toNat]?)) with
          | true =>
            repeat (first | refine st_end rfl ?_ | ((first | refine st_op fun K k => ?_ | refine st_op0 fun K k => ?_ | refine st_opT fun K k => ?_ | refine st_grd rfl fun A B C k k' k2 => ?_ | refine st_cond fun A B k k' => ?_); simp only [go_sem, reduceIte, Nat.reduceEqDiff, Nat.reduceAdd, Nat.reduceMul, Nat.reduceSub, Nat.reduceLT, Nat.reduceLeDiff, Int.reduceToNat, reduceCtorEq, Int.reduceEq, Int.reduceBEq, Int.reduceLE, Int.reduceLT, w5]; first | (refine k _ _ _ _ _ ?_; clear k K) | (refine k ?_; clear k k' k2 A B C) | (refine k' ?_; clear k k' k2 A B C) | (refine k2 ?_; clear k k' k2 A B C) | (refine k ?_; clear k k' A B) | (refine k' ?_; clear k k' A B)))
            refine ⟨j + 1, ⟨by omega, ?_⟩, by omega, (Into.ren h0 [] 1 rfl).trans (Into.le ?_ trivial (Nat.le_refl _) rfl)⟩
            · intro j' b' h1 h2 h3
              by_cases hjj : j' = j
              · rw [hjj, hb'] at h2
                cases h2
                rw [hiff.2 h3] at hany
                cases hany
              · exact hj.2 j' b' (by omega) h2 h3
            · simp only [go_sem, reduceIte, Nat.reduceEqDiff, Nat.reduceAdd, Nat.reduceMul, Nat.reduceSub, Nat.reduceLT, Nat.reduceLeDiff, Int.reduceToNat, reduceCtorEq, Int.reduceEq, Int.reduceBEq, Int.reduceLE, Int.reduceLT, newOf]
          | false =>
            repeat (first | refine st_end rfl ?_ | ((first | refine st_op fun K k => ?_ | refine st_op0 fun K k => ?_ | refine st_opT fun K k => ?_ | refine st_grd rfl fun A B C k k' k2 => ?_ | refine st_cond fun A B k k' => ?_); simp only [go_sem, reduceIte, Nat.reduceEqDiff, Nat.reduceAdd, Nat.reduceMul, Nat.reduceSub, Nat.reduceLT, Nat.reduceLeDiff, Int.reduceToNat, reduceCtorEq, Int.reduceEq, Int.reduceBEq, Int.reduceLE, Int.reduceLT, hta, htb, encV_len, encV_take, Nat.le_refl]; first | (refine k _ _ _ _ _ ?_; clear k K) | (refine k ?_; clear k k' k2 A B C) | (refine k' ?_; clear k k' k2 A B C) | (refine k2 ?_; clear k k' k2 A B C) | (refine k ?_; clear k k' A B) | (refine k' ?_; clear k k' A B)))
            refine st_opT fun K k => ?_
            simp only [go_sem, reduceIte, Nat.reduceEqDiff, Nat.reduceAdd, Nat.reduceMul, Nat.reduceSub, Nat.reduceLT, Nat.reduceLeDiff, Int.reduceToNat, reduceCtorEq, Int.reduceEq, Int.reduceBEq, Int.reduceLE, Int.reduceLT]
            refine callP (f74_ok ta tb) ?_
            refine k _ _ _ _ _ ?_; clear k K
            by_cases hab : ta = tb
            · repeat (first | refine st_end rfl ?_ | ((first | refine st_op fun K k => ?_ | refine st_op0 fun K k => ?_ | refine st_opT fun K k => ?_ | refine st_grd rfl fun A B C k k' k2 => ?_ | refine st_cond fun A B k k' => ?_); simp only [go_sem, reduceIte, Nat.reduceEqDiff, Nat.reduceAdd, Nat.reduceMul, Nat.reduceSub, Nat.reduceLT, Nat.reduceLeDiff, Int.reduceToNat, reduceCtorEq, Int.reduceEq, Int.reduceBEq, Int.reduceLE, Int.reduceLT, hab, decide_true, w5]; first | (refine k _ _ _ _ _ ?_; clear k K) | (refine k ?_; clear k k' k2 A B C) | (refine k' ?_; clear k k' k2 A B C) | (refine k2 ?_; clear k k' k2 A B C) | (refine k ?_; clear k k' A B) | (refine k' ?_; clear k k' A B)))
              refine ⟨j + 1, ⟨by omega, ?_⟩, by omega, (Into.ren h0 [] 1 rfl).trans (Into.le ?_ trivial (Nat.le_refl _) rfl)⟩
              · intro j' b' h1 h2 h3
                by_cases hjj : j' = j
                · rw [hjj, hb'] at h2
                  cases h2
                  rw [hta, htb, hab]
                · exact hj.2 j' b' (by omega) h2 h3
              · simp only [go_sem, reduceIte, Nat.reduceEqDiff, Nat.reduceAdd, Nat.reduceMul, Nat.reduceSub, Nat.reduceLT, Nat.reduceLeDiff, Int.reduceToNat, reduceCtorEq, Int.reduceEq, Int.reduceBEq, Int.reduceLE, Int.reduceLT, newOf]
            · repeat (first | refine st_end rfl ?_ | ((first | refine st_op fun K k => ?_ | refine st_op0 fun K k => ?_ | refine st_opT fun K k => ?_ | refine st_grd rfl fun A B C k k' k2 => ?_ | refine st_cond fun A B k k' => ?_); simp only [go_sem, reduceIte, Nat.reduceEqDiff, Nat.reduceAdd, Nat.reduceMul, Nat.reduceSub, Nat.reduceLT, Nat.reduceLeDiff, Int.reduceToNat, reduceCtorEq, Int.reduceEq, Int.reduceBEq, Int.reduceLE, Int.reduceLT, hab, decide_false]; first | (refine k _ _ _ _ _ ?_; clear k K) | (refine k ?_; clear k k' k2 A B C) | (refine k' ?_; clear k k' k2 A B C) | (refine k2 ?_; clear k k' k2 A B C) | (refine k ?_; clear k k' A B) | (refine k' ?_; clear k k' A B)))
              refine iq Into.refl (iq Into.refl (Done.mk (.inr rfl) Into.refl ?_ [] 0 ?_ ?_ ?_ ?_))
              · rfl
              · rfl
              · simp only [go_sem, reduceIte, Nat.reduceEqDiff, Nat.reduceAdd, Nat.reduceMul, Nat.reduceSub, Nat.reduceLT, Nat.reduceLeDiff, Int.reduceToNat, reduceCtorEq, Int.reduceEq, Int.reduceBEq, Int.reduceLE, Int.reduceLT]
                have : ¬ HoldsP cols rows d := by
                  rintro ⟨_, _, _, h4⟩
                  have := h4 i j a b ha hb' hji (hiff.1 hany)
                  rw [hta, htb] at this
                  exact hab (by simpa using this)
                simp [this]
              · trivial
              · rfl
        · refine iq Into.refl ?_
          have w5 : IntKind.wrap .i64 ((i : Int) + 1) = ((i + 1 : Nat) : Int) := wrapTo (by omega)
          repeat (first | refine st_end rfl ?_ | ((first | refine st_op fun K k => ?_ | refine st_op0 fun K k => ?_ | refine st_opT fun K k => ?_ | refine st_grd rfl fun A B C k k' k2 => ?_ | refine st_cond fun A B k k' => ?_); simp only [go_sem, reduceIte, Nat.reduceEqDiff, Nat.reduceAdd, Nat.reduceMul, Nat.reduceSub, Nat.reduceLT, Nat.reduceLeDiff, Int.reduceToNat, reduceCtorEq, Int.reduceEq, Int.reduceBEq, Int.reduceLE, Int.reduceLT, w5]; first | (refine k _ _ _ _ _ ?_; clear k K) | (refine k ?_; clear k k' k2 A B C) | (refine k' ?_; clear k k' k2 A B C) | (refine k2 ?_; clear k k' k2 A B C) | (refine k ?_; clear k k' A B) | (refine k' ?_; clear k k' A B)))
          obtain rfl : j = i := by omega
          refine ⟨j + 1, ⟨by omega, ?_⟩, by omega, (Into.ren h0 [] 0 rfl).trans (Into.le ?_ trivial (Nat.le_refl _) rfl)⟩
          · intro i' j' a' b' h1 h2 h3 h4 h5
            by_cases hii : i' = j
            · rw [hii, ha] at h2
              cases h2
              exact hj.2 j' b' (by omega) h3 h5
            · exact hi.2 i' j' a' b' (by omega) h2 h3 h4 h5
          · simp only [go_sem, reduceIte, Nat.reduceEqDiff, Nat.reduceAdd, Nat.reduceMul, Nat.reduceSub, Nat.reduceLT, Nat.reduceLeDiff, Int.reduceToNat, reduceCtorEq, Int.reduceEq, Int.reduceBEq, Int.reduceLE, Int.reduceLT, newOf]
      · refine iq Into.refl ?_
        repeat (first | refine st_end rfl ?_ | ((first | refine st_op fun K k => ?_ | refine st_op0 fun K k => ?_ | refine st_opT fun K k => ?_ | refine st_grd rfl fun A B C k k' k2 => ?_ | refine st_cond fun A B k k' => ?_); simp only [go_sem, reduceIte, Nat.reduceEqDiff, Nat.reduceAdd, Nat.reduceMul, Nat.reduceSub, Nat.reduceLT, Nat.reduceLeDiff, Int.reduceToNat, reduceCtorEq, Int.reduceEq, Int.reduceBEq, Int.reduceLE, Int.reduceLT]; first | (refine k _ _ _ _ _ ?_; clear k K) | (refine k ?_; clear k k' k2 A B C) | (refine k' ?_; clear k k' k2 A B C) | (refine k2 ?_; clear k k' k2 A B C) | (refine k ?_; clear k k' A B) | (refine k' ?_; clear k k' A B)))
        refine Done.mk (.inr rfl) Into.refl ?_ [] 0 ?_ ?_ ?_ ?_
        · rfl
        · rfl
        · simp only [go_sem, reduceIte, Nat.reduceEqDiff, Nat.reduceAdd, Nat.reduceMul, Nat.reduceSub, Nat.reduceLT, Nat.reduceLeDiff, Int.reduceToNat, reduceCtorEq, Int.reduceEq, Int.reduceBEq, Int.reduceLE, Int.reduceLT]
          have : HoldsP cols rows d := ⟨hto, hsq', hsrc, fun i' j a b h1 h2 h3 h4 => hi.2 i' j a b (by have := (List.getElem?_eq_some_iff.1 h1).1; omega) h1 h2 h3 h4⟩
          simp [this]
        · trivial
        · rfl
end Go.Proofs.YtjgooecohepkoaaGreatDoor
namespace Go.Proofs.YtjgooecohepkoaaGreatDoor
open Go Go.Abs
set_option linter.unusedSimpArgs false
theorem f78_ok (es : List (Value × D)) (hes : es.map (fun x => (x.1, subD (idP [(0, .mp es)]) x.2)) = es) (hes2 : es.map (fun x => (x.1, subD (newOf [(0, 0), (1, 1)]) x.2)) = es) :
    FnOK sys 78 [.mp 0] [(0, .mp es)] (.fn (.func 124) [] [.ref 1 0]) [(0, .mp es), (1, .box [.mp 0])] := by
  refine FnOK.intro Tryz.f78 (by kernel_rfl) rfl rfl [.tmp 2] rfl 1 rfl (Nat.le_of_ble_eq_true rfl) rfl ?_ fun E hN h0 => W.code (N := 4) [] hN ?_
  · simp only [mapS, List.map_cons, List.map_nil, subO, hes]
  repeat (first | refine st_end rfl ?_ | ((first | refine st_op fun K k => ?_ | refine st_op0 fun K k => ?_ | refine st_opT fun K k => ?_ | refine st_grd rfl fun A B C k k' k2 => ?_ | refine st_cond fun A B k k' => ?_); simp only [go_sem, reduceIte, Nat.reduceEqDiff, Nat.reduceAdd, Nat.reduceMul, Nat.reduceSub, Nat.reduceLT, Nat.reduceLeDiff, Int.reduceToNat, reduceCtorEq, Int.reduceEq, Int.reduceBEq, Int.reduceLE, Int.reduceLT]; first | (refine k _ _ _ _ _ ?_; clear k K) | (refine k ?_; clear k k' k2 A B C) | (refine k' ?_; clear k k' k2 A B C) | (refine k2 ?_; clear k k' k2 A B C) | (refine k ?_; clear k k' A B) | (refine k' ?_; clear k k' A B)))
  refine Done.mk (.inr rfl) Into.refl ?_ [(0, 0), (1, 1)] 2 ?_ ?_ ?_ ?_
  · rfl
  · rfl
  · simp only [go_sem, reduceIte, Nat.reduceEqDiff, Nat.reduceAdd, Nat.reduceMul, Nat.reduceSub, Nat.reduceLT, Nat.reduceLeDiff, Int.reduceToNat, reduceCtorEq, Int.reduceEq, Int.reduceBEq, Int.reduceLE, Int.reduceLT]
  · simp only [go_sem, reduceIte, Nat.reduceEqDiff, Nat.reduceAdd, Nat.reduceMul, Nat.reduceSub, Nat.reduceLT, Nat.reduceLeDiff, Int.reduceToNat, reduceCtorEq, Int.reduceEq, Int.reduceBEq, Int.reduceLE, Int.reduceLT]
    simpa [newOf] using hes2
  · rfl
/-- A set of strings, as a map's entries. -/
def setM (es : List (List UInt8)) : List (Value × D) := es.map fun s => (.string ⟨⟨s⟩⟩, .v (.bool true))
theorem setM_zip (es : List (List UInt8)) : (es.map fun s => Value.string ⟨⟨s⟩⟩).zip (es.map fun _ => D.v (.bool true)) = setM es := by
  induction es with
  | nil => rfl
  | cons x r ih => simp only [List.map_cons, List.zip_cons_cons, ih, setM]
theorem setM_kind (es : List (List UInt8)) : ∀ e ∈ setM es, keyKind .str e.1 = true := by
  intro e he
  obtain ⟨s, _, rfl⟩ := List.mem_map.1 he
  rfl
theorem setM_find (es : List (List UInt8)) (x : List UInt8) (i : Decidable (x ∈ es)) : findM (setM es) (.string ⟨⟨x⟩⟩) = if x ∈ es then some (.v (.bool true)) else none := by
  induction es with
  | nil => simp [setM, findM]
  | cons y r ih =>
    by_cases h : x = y
    · subst h
      simp [setM, findM, keyEq]
    · have ih' := ih (Classical.propDecidable _)
      simp only [setM, findM, List.map_cons] at ih' ⊢
      have hk : keyEq (.string ⟨⟨x⟩⟩) (.string ⟨⟨y⟩⟩) = false := by simp [keyEq, h]
      rw [List.find?_cons, hk]
      simp only
      rw [ih']
      by_cases hm : x ∈ r <;> simp [hm, h]
theorem f76_ok (x : List UInt8) (es : List (List UInt8)) : FnOK sys 76 [.s x, .ep [.fmp (es.map fun s => .string ⟨⟨s⟩⟩) (es.map fun _ => .v (.bool true))]] [] (.v (.bool (!decide (x ∈ es)))) [] := by
  refine FnOK.intro Tryz.f76 (by kernel_rfl) rfl rfl [.tmp 3] rfl 0 rfl (Nat.le_of_ble_eq_true rfl) rfl rfl fun E hN h0 => W.code (N := 8) [] hN ?_
  have hk := setM_kind es
  unfold keyKind at hk
  by_cases hx : x ∈ es
  · repeat (first | refine st_end rfl ?_ | ((first | refine st_op fun K k => ?_ | refine st_op0 fun K k => ?_ | refine st_opT fun K k => ?_ | refine st_grd rfl fun A B C k k' k2 => ?_ | refine st_cond fun A B k k' => ?_); simp only [go_sem, reduceIte, Nat.reduceEqDiff, Nat.reduceAdd, Nat.reduceMul, Nat.reduceSub, Nat.reduceLT, Nat.reduceLeDiff, Int.reduceToNat, reduceCtorEq, Int.reduceEq, Int.reduceBEq, Int.reduceLE, Int.reduceLT, setM_zip, setM_find, hx]; first | (refine k _ _ _ _ _ ?_; clear k K) | (refine k ?_; clear k k' k2 A B C) | (refine k' ?_; clear k k' k2 A B C) | (refine k2 ?_; clear k k' k2 A B C) | (refine k ?_; clear k k' A B) | (refine k' ?_; clear k k' A B)))
    refine st_op fun K k => ?_
    simp only [go_sem, reduceIte, Nat.reduceEqDiff, Nat.reduceAdd, Nat.reduceMul, Nat.reduceSub, Nat.reduceLT, Nat.reduceLeDiff, Int.reduceToNat, reduceCtorEq, Int.reduceEq, Int.reduceBEq, Int.reduceLE, Int.reduceLT, setM_zip, setM_find, hx]
    refine ⟨hk, k _ _ _ _ _ ?_⟩; clear k K
    repeat (first | refine st_end rfl ?_ | ((first | refine st_op fun K k => ?_ | refine st_op0 fun K k => ?_ | refine st_opT fun K k => ?_ | refine st_grd rfl fun A B C k k' k2 => ?_ | refine st_cond fun A B k k' => ?_); simp only [go_sem, reduceIte, Nat.reduceEqDiff, Nat.reduceAdd, Nat.reduceMul, Nat.reduceSub, Nat.reduceLT, Nat.reduceLeDiff, Int.reduceToNat, reduceCtorEq, Int.reduceEq, Int.reduceBEq, Int.reduceLE, Int.reduceLT]; first | (refine k _ _ _ _ _ ?_; clear k K) | (refine k ?_; clear k k' k2 A B C) | (refine k' ?_; clear k k' k2 A B C) | (refine k2 ?_; clear k k' k2 A B C) | (refine k ?_; clear k k' A B) | (refine k' ?_; clear k k' A B)))
    refine Done.mk (.inr rfl) Into.refl ?_ [] 0 ?_ ?_ ?_ ?_
    · rfl
    · rfl
    · simp only [go_sem, reduceIte, Nat.reduceEqDiff, Nat.reduceAdd, Nat.reduceMul, Nat.reduceSub, Nat.reduceLT, Nat.reduceLeDiff, Int.reduceToNat, reduceCtorEq, Int.reduceEq, Int.reduceBEq, Int.reduceLE, Int.reduceLT, hx, decide_true]
    · trivial
    · rfl
  · repeat (first | refine st_end rfl ?_ | ((first | refine st_op fun K k => ?_ | refine st_op0 fun K k => ?_ | refine st_opT fun K k => ?_ | refine st_grd rfl fun A B C k k' k2 => ?_ | refine st_cond fun A B k k' => ?_); simp only [go_sem, reduceIte, Nat.reduceEqDiff, Nat.reduceAdd, Nat.reduceMul, Nat.reduceSub, Nat.reduceLT, Nat.reduceLeDiff, Int.reduceToNat, reduceCtorEq, Int.reduceEq, Int.reduceBEq, Int.reduceLE, Int.reduceLT, setM_zip, setM_find, hx]; first | (refine k _ _ _ _ _ ?_; clear k K) | (refine k ?_; clear k k' k2 A B C) | (refine k' ?_; clear k k' k2 A B C) | (refine k2 ?_; clear k k' k2 A B C) | (refine k ?_; clear k k' A B) | (refine k' ?_; clear k k' A B)))
    refine st_op fun K k => ?_
    simp only [go_sem, reduceIte, Nat.reduceEqDiff, Nat.reduceAdd, Nat.reduceMul, Nat.reduceSub, Nat.reduceLT, Nat.reduceLeDiff, Int.reduceToNat, reduceCtorEq, Int.reduceEq, Int.reduceBEq, Int.reduceLE, Int.reduceLT, setM_zip, setM_find, hx]
    refine ⟨hk, k _ _ _ _ _ ?_⟩; clear k K
    repeat (first | refine st_end rfl ?_ | ((first | refine st_op fun K k => ?_ | refine st_op0 fun K k => ?_ | refine st_opT fun K k => ?_ | refine st_grd rfl fun A B C k k' k2 => ?_ | refine st_cond fun A B k k' => ?_); simp only [go_sem, reduceIte, Nat.reduceEqDiff, Nat.reduceAdd, Nat.reduceMul, Nat.reduceSub, Nat.reduceLT, Nat.reduceLeDiff, Int.reduceToNat, reduceCtorEq, Int.reduceEq, Int.reduceBEq, Int.reduceLE, Int.reduceLT]; first | (refine k _ _ _ _ _ ?_; clear k K) | (refine k ?_; clear k k' k2 A B C) | (refine k' ?_; clear k k' k2 A B C) | (refine k2 ?_; clear k k' k2 A B C) | (refine k ?_; clear k k' A B) | (refine k' ?_; clear k k' A B)))
    refine Done.mk (.inr rfl) Into.refl ?_ [] 0 ?_ ?_ ?_ ?_
    · rfl
    · rfl
    · simp only [go_sem, reduceIte, Nat.reduceEqDiff, Nat.reduceAdd, Nat.reduceMul, Nat.reduceSub, Nat.reduceLT, Nat.reduceLeDiff, Int.reduceToNat, reduceCtorEq, Int.reduceEq, Int.reduceBEq, Int.reduceLE, Int.reduceLT, hx, decide_false]
    · trivial
    · rfl
end Go.Proofs.YtjgooecohepkoaaGreatDoor
namespace Go.Proofs.YtjgooecohepkoaaGreatDoor
open Go Go.Abs
set_option linter.unusedSimpArgs false
/-- Into a set, behind what is there. -/
def ins (k : List (List UInt8)) (x : List UInt8) : List (List UInt8) := if x ∈ k then k else k ++ [x]
/-- A dependency that says something new. -/
def fires (k : List (List UInt8)) (d : DP) : Bool := d.src.all (fun s => decide (s ∈ k)) && !decide (d.dst ∈ k)
def grow1 (l : List DP) (k : List (List UInt8)) : Option (List UInt8) := (l.find? (fires k)).map (·.dst)
def left (l : List DP) (k : List (List UInt8)) : Nat := (l.filter fun d => !decide (d.dst ∈ k)).length
def growN (l : List DP) : Nat → List (List UInt8) → List (List UInt8)
  | 0, k => k
  | n + 1, k => match grow1 l k with
    | some x => growN l n (k ++ [x])
    | none => k
theorem left_lt {l : List DP} {k : List (List UInt8)} {x : List UInt8} (h : grow1 l k = some x) : left l (k ++ [x]) < left l k := by
  unfold grow1 at h
  simp only [Option.map_eq_some_iff] at h
  obtain ⟨d, hd, rfl⟩ := h
  have hm := List.mem_of_find?_eq_some hd
  have hf := List.find?_some hd
  simp only [fires, Bool.and_eq_true, Bool.not_eq_true', decide_eq_false_iff_not] at hf
  unfold left
  have key : ∀ (r : List DP), (r.filter fun e => !decide (e.dst ∈ k ++ [d.dst])).length ≤ (r.filter fun e => !decide (e.dst ∈ k)).length ∧
      (d ∈ r → (r.filter fun e => !decide (e.dst ∈ k ++ [d.dst])).length < (r.filter fun e => !decide (e.dst ∈ k)).length) := by
    intro r
    induction r with
    | nil => simp
    | cons e r ih =>
      by_cases h1 : e.dst ∈ k
      · have h2 : e.dst ∈ k ++ [d.dst] := by simp [h1]
        simp only [List.filter_cons, h1, h2, decide_true, Bool.not_true, Bool.false_eq_true, if_false]
        refine ⟨ih.1, fun hm => ?_⟩
        rcases List.mem_cons.1 hm with rfl | hm
        · exact absurd h1 hf.2
        · exact ih.2 hm
      · by_cases h3 : e.dst = d.dst
        · have h2 : e.dst ∈ k ++ [d.dst] := by simp [h3]
          simp only [List.filter_cons, h1, h2, decide_true, decide_false, Bool.not_true, Bool.not_false, Bool.false_eq_true, if_false, if_true, List.length_cons]
          exact ⟨by have := ih.1; omega, fun _ => by have := ih.1; omega⟩
        · have h2 : ¬ e.dst ∈ k ++ [d.dst] := by simp [h1, h3]
          simp only [List.filter_cons, h1, h2, decide_false, Bool.not_false, if_true, List.length_cons]
          refine ⟨by have := ih.1; omega, fun hm => ?_⟩
          rcases List.mem_cons.1 hm with rfl | hm
          · exact absurd rfl h3
          · have := ih.2 hm; omega
  exact (key l).2 hm
end Go.Proofs.YtjgooecohepkoaaGreatDoor
namespace Go.Proofs.YtjgooecohepkoaaGreatDoor
open Go Go.Abs
set_option linter.unusedSimpArgs false
theorem f75_known (src known : List (List UInt8)) : FnOK sys 75 [strsD src, .fn (.func 76) [] [.ref 0 0]] [(0, .box [.mp 1]), (1, .mp (setM known))] (.v (.bool (src.any fun s => !decide (s ∈ known)))) [(0, .box [.mp 1]), (1, .mp (setM known))] := by
  refine FnOK.lend 4 ?_ rfl
  have := f75_ok 76 [.ep [.fmp (known.map fun s => .string ⟨⟨s⟩⟩) (known.map fun _ => .v (.bool true))]] rfl src (fun s => !decide (s ∈ known)) (fun s _ => f76_ok s known)
  have e1 : (setM known).map (·.1) = known.map fun s => .string ⟨⟨s⟩⟩ := by simp [setM]
  have e2 : ((setM known).map fun e => shut (lend [(0, .box [.mp 1]), (1, .mp (setM known))] 1 e.2)) = known.map fun _ => .v (.bool true) := by
    simp [setM, lend, shut, free]
  have e3 : [strsD src, .fn (.func 76) [] [.ref 0 0]].map (lend [(0, .box [.mp 1]), (1, .mp (setM known))] 4) = [strsD src, .fn (.func 76) [] [.ep [.fmp (known.map fun s => .string ⟨⟨s⟩⟩) (known.map fun _ => .v (.bool true))]]] := by
    rw [← e1, ← e2]
    rfl
  rw [e3]
  exact this
end Go.Proofs.YtjgooecohepkoaaGreatDoor
namespace Go.Proofs.YtjgooecohepkoaaGreatDoor
open Go Go.Abs
set_option linter.unusedSimpArgs false
theorem putM_set (x : List UInt8) : ∀ (k : List (List UInt8)), putM (setM k) (.string ⟨⟨x⟩⟩) (.v (.bool true)) = setM (ins k x)
  | [] => rfl
  | y :: r => by
    have ih := putM_set x r
    by_cases h : x = y
    · subst h
      simp [setM, putM, keyEq, ins]
    · have hk : keyEq (.string ⟨⟨x⟩⟩) (.string ⟨⟨y⟩⟩) = false := by simp [keyEq, h]
      simp only [setM, List.map_cons, putM, hk, Bool.false_eq_true, if_false] at ih ⊢
      rw [ih]
      by_cases hm : x ∈ r
      · simp [ins, hm]
      · simp [ins, hm, h]
end Go.Proofs.YtjgooecohepkoaaGreatDoor
