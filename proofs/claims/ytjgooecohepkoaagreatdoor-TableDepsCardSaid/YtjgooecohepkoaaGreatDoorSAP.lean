/- Contracts of the functions that the statement reaches. -/
import Derived.Test.YtjgooecohepkoaaGreatDoorSAO
import Derived.Test.YtjgooecohepkoaaGreatDoorSAK
set_option linter.unusedVariables false
set_option linter.unusedSimpArgs false
namespace Go.Proofs.YtjgooecohepkoaaGreatDoor
open Go Go.Abs
set_option linter.unusedSimpArgs false
open Classical in
theorem f30_flat (cols : List (List UInt8)) (rs : List (List FV)) (d : DP) (hsm : d.src.length ≤ 1000000) : FnOK sys 30 [strsD cols, rowsD rs, .agg d.cells] [] (.v (.bool (decide (HoldsP cols (valsOf rs) d)))) [] :=
  (f30_ok cols (valsOf rs) d hsm).leArgs (LeL.cons (LeD.refl _) (LeL.cons (rows_le rs) (LeL.cons (LeD.refl _) LeL.nil)))
/-- Rows, and one row more without memory. -/
def ragD (rs : List (List FV)) : D := .sl (rs.map (fun r => [rowD r]) ++ [[.v (.slice none 0 0)]]) 1
theorem rag_le (rs : List (List FV)) : LeD (ragD rs) (rowsV (valsOf rs ++ [[]])) := by
  unfold ragD rowsV
  refine LeD.sl (by simp [valsOf]) ?_ ?_
  · intro e he
    obtain ⟨v, _, rfl⟩ := List.mem_map.1 he
    rfl
  · intro i e e' h1 h2
    rw [List.getElem?_map] at h2
    by_cases hi : i < rs.length
    · rw [List.getElem?_append_left (by simpa using hi), List.getElem?_map] at h1
      rw [List.getElem?_append_left (by simpa [valsOf] using hi), valsOf, List.getElem?_map] at h2
      cases hr : rs[i]? with
      | none => rw [hr] at h1; cases h1
      | some v =>
        rw [hr] at h1 h2
        cases h1; cases h2
        exact LeL.cons (row_le v) LeL.nil
    · rw [List.getElem?_append_right (by simpa using Nat.le_of_not_lt hi)] at h1
      rw [List.getElem?_append_right (by simpa [valsOf] using Nat.le_of_not_lt hi)] at h2
      have hz : i - rs.length = 0 := by
        have := (List.getElem?_eq_some_iff.1 h1).1
        simp at this; omega
      simp only [valsOf, List.length_map, hz] at h1 h2
      cases h1; cases h2
      exact LeL.cons (LeD.nil 7) LeL.nil
open Classical in
theorem f26_rag (cols : List (List UInt8)) (rs : List (List FV)) (d : DP) (hsm : d.src.length ≤ 1000000) (hc : cols.length ≠ 0) : FnOK sys 26 [strsD cols, ragD rs, .agg d.cells] [] (.v (.bool false)) [] := by
  have h := (f26_ok cols (valsOf rs ++ [[]]) d hsm).leArgs (args := [strsD cols, ragD rs, .agg d.cells]) (LeL.cons (LeD.refl _) (LeL.cons (rag_le rs) (LeL.cons (LeD.refl _) LeL.nil)))
  have hn : ¬ HoldsP cols (valsOf rs ++ [[]]) d := by
    rintro ⟨_, h2, _⟩
    have := h2 [] (by simp)
    exact hc this.symm
  simpa [hn] using h
theorem names_ne (L : List Int) : (names4.take (mMany L)).length ≠ 0 := by
  have : mMany L ≠ 0 := by unfold mMany; omega
  simp [names4]; omega
theorem rs_len (L : List Int) : ((List.range (mRows L)).map (mRow L)).length ≤ 7 := by
  have h := nextV_pos L (1 + mMany L) (n := 7) (by omega)
  simp [mRows]; omega
set_option maxRecDepth 20000 in
set_option maxHeartbeats 1000000 in
open Classical in
theorem f6_ok (L : List Int) (ls : List (List Int)) (dL : List Int) : FnOK sys 6 [ints L, .sl (ls.map fun x => [ints x]) 1, ints dL] [] (.v (.bool true)) [] := by
  obtain ⟨cols, hcols⟩ : ∃ c, names4.take (mMany L) = c := ⟨_, rfl⟩
  obtain ⟨rs, hrs⟩ : ∃ r, (List.range (mRows L)).map (mRow L) = r := ⟨_, rfl⟩
  have hmade := f12_ok [116] L
  have hne := names_ne L
  have hrl := rs_len L
  rw [hcols, hrs] at hmade
  rw [hcols] at hne
  rw [hrs] at hrl
  have hall := f24_ok ls
  have hal := allOf_le ls
  obtain ⟨l, hl⟩ : ∃ l, allOf ls = l := ⟨_, rfl⟩
  rw [hl] at hall hal
  have hdo := f25_ok dL
  have hdl := dOf_le dL
  obtain ⟨d0, hd0⟩ : ∃ d, dOf dL = d := ⟨_, rfl⟩
  rw [hd0] at hdo hdl
  obtain ⟨hal1, hal2⟩ := hal
  obtain ⟨src, dst⟩ := d0
  obtain ⟨hs1, hs2, hs3⟩ := hdl
  simp only at hs1 hs2 hs3
  refine FnOK.intro Tryz.f6 (by kernel_rfl) rfl rfl [.tmp 6] rfl 0 rfl (Nat.le_of_ble_eq_true rfl) rfl rfl fun E hN h0 => ?_
  refine W.seqK fun K hK => W.code (N := 99) [51] hN ?_
  repeat (first | refine st_end rfl ?_ | ((first | refine st_op fun K k => ?_ | refine st_op0 fun K k => ?_ | refine st_opT fun K k => ?_ | refine st_grd rfl fun A B C k k' k2 => ?_ | refine st_cond fun A B k k' => ?_); simp only [go_sem, reduceIte, Nat.reduceEqDiff, Nat.reduceAdd, Nat.reduceMul, Nat.reduceSub, Nat.reduceLT, Nat.reduceLeDiff, Int.reduceToNat, reduceCtorEq, Int.reduceEq, Int.reduceBEq, Int.reduceLE, Int.reduceLT]; first | (refine k _ _ _ _ _ ?_; clear k K) | (refine k ?_; clear k k' k2 A B C) | (refine k' ?_; clear k k' k2 A B C) | (refine k2 ?_; clear k k' k2 A B C) | (refine k ?_; clear k k' A B) | (refine k' ?_; clear k k' A B)))
  refine hK _ ?_; clear hK K
  refine W.seqK fun K hK => W.code (N := 99) [51] hN ?_
  repeat (first | refine st_end rfl ?_ | ((first | refine st_op fun K k => ?_ | refine st_op0 fun K k => ?_ | refine st_opT fun K k => ?_ | refine st_grd rfl fun A B C k k' k2 => ?_ | refine st_cond fun A B k k' => ?_); simp only [go_sem, reduceIte, Nat.reduceEqDiff, Nat.reduceAdd, Nat.reduceMul, Nat.reduceSub, Nat.reduceLT, Nat.reduceLeDiff, Int.reduceToNat, reduceCtorEq, Int.reduceEq, Int.reduceBEq, Int.reduceLE, Int.reduceLT]; first | (refine k _ _ _ _ _ ?_; clear k K) | (refine k ?_; clear k k' k2 A B C) | (refine k' ?_; clear k k' k2 A B C) | (refine k2 ?_; clear k k' k2 A B C) | (refine k ?_; clear k k' A B) | (refine k' ?_; clear k k' A B)))
  (first | refine st_op fun K k => ?_ | refine st_opT fun K k => ?_); simp only [go_sem, reduceIte, Nat.reduceEqDiff, Nat.reduceAdd, Nat.reduceMul, Nat.reduceSub, Nat.reduceLT, Nat.reduceLeDiff, Int.reduceToNat, reduceCtorEq, Int.reduceEq, Int.reduceBEq, Int.reduceLE, Int.reduceLT]; refine callP (f11_ok) ?_; refine k _ _ _ _ _ ?_; clear k K
  repeat (first | refine st_end rfl ?_ | ((first | refine st_op fun K k => ?_ | refine st_op0 fun K k => ?_ | refine st_opT fun K k => ?_ | refine st_grd rfl fun A B C k k' k2 => ?_ | refine st_cond fun A B k k' => ?_); simp only [go_sem, reduceIte, Nat.reduceEqDiff, Nat.reduceAdd, Nat.reduceMul, Nat.reduceSub, Nat.reduceLT, Nat.reduceLeDiff, Int.reduceToNat, reduceCtorEq, Int.reduceEq, Int.reduceBEq, Int.reduceLE, Int.reduceLT]; first | (refine k _ _ _ _ _ ?_; clear k K) | (refine k ?_; clear k k' k2 A B C) | (refine k' ?_; clear k k' k2 A B C) | (refine k2 ?_; clear k k' k2 A B C) | (refine k ?_; clear k k' A B) | (refine k' ?_; clear k k' A B)))
  refine hK _ ?_; clear hK K
  refine W.seqK fun K hK => W.code (N := 99) [51] hN ?_
  repeat (first | refine st_end rfl ?_ | ((first | refine st_op fun K k => ?_ | refine st_op0 fun K k => ?_ | refine st_opT fun K k => ?_ | refine st_grd rfl fun A B C k k' k2 => ?_ | refine st_cond fun A B k k' => ?_); simp only [go_sem, reduceIte, Nat.reduceEqDiff, Nat.reduceAdd, Nat.reduceMul, Nat.reduceSub, Nat.reduceLT, Nat.reduceLeDiff, Int.reduceToNat, reduceCtorEq, Int.reduceEq, Int.reduceBEq, Int.reduceLE, Int.reduceLT]; first | (refine k _ _ _ _ _ ?_; clear k K) | (refine k ?_; clear k k' k2 A B C) | (refine k' ?_; clear k k' k2 A B C) | (refine k2 ?_; clear k k' k2 A B C) | (refine k ?_; clear k k' A B) | (refine k' ?_; clear k k' A B)))
  (first | refine st_op fun K k => ?_ | refine st_opT fun K k => ?_); simp only [go_sem, reduceIte, Nat.reduceEqDiff, Nat.reduceAdd, Nat.reduceMul, Nat.reduceSub, Nat.reduceLT, Nat.reduceLeDiff, Int.reduceToNat, reduceCtorEq, Int.reduceEq, Int.reduceBEq, Int.reduceLE, Int.reduceLT]; refine callP (hmade) ?_; refine k _ _ _ _ _ ?_; clear k K
  repeat (first | refine st_end rfl ?_ | ((first | refine st_op fun K k => ?_ | refine st_op0 fun K k => ?_ | refine st_opT fun K k => ?_ | refine st_grd rfl fun A B C k k' k2 => ?_ | refine st_cond fun A B k k' => ?_); simp only [go_sem, reduceIte, Nat.reduceEqDiff, Nat.reduceAdd, Nat.reduceMul, Nat.reduceSub, Nat.reduceLT, Nat.reduceLeDiff, Int.reduceToNat, reduceCtorEq, Int.reduceEq, Int.reduceBEq, Int.reduceLE, Int.reduceLT]; first | (refine k _ _ _ _ _ ?_; clear k K) | (refine k ?_; clear k k' k2 A B C) | (refine k' ?_; clear k k' k2 A B C) | (refine k2 ?_; clear k k' k2 A B C) | (refine k ?_; clear k k' A B) | (refine k' ?_; clear k k' A B)))
  refine hK _ ?_; clear hK K
  refine W.seqK fun K hK => W.code (N := 99) [51] hN ?_
  repeat (first | refine st_end rfl ?_ | ((first | refine st_op fun K k => ?_ | refine st_op0 fun K k => ?_ | refine st_opT fun K k => ?_ | refine st_grd rfl fun A B C k k' k2 => ?_ | refine st_cond fun A B k k' => ?_); simp only [go_sem, reduceIte, Nat.reduceEqDiff, Nat.reduceAdd, Nat.reduceMul, Nat.reduceSub, Nat.reduceLT, Nat.reduceLeDiff, Int.reduceToNat, reduceCtorEq, Int.reduceEq, Int.reduceBEq, Int.reduceLE, Int.reduceLT]; first | (refine k _ _ _ _ _ ?_; clear k K) | (refine k ?_; clear k k' k2 A B C) | (refine k' ?_; clear k k' k2 A B C) | (refine k2 ?_; clear k k' k2 A B C) | (refine k ?_; clear k k' A B) | (refine k' ?_; clear k k' A B)))
  (first | refine st_op fun K k => ?_ | refine st_opT fun K k => ?_); simp only [go_sem, reduceIte, Nat.reduceEqDiff, Nat.reduceAdd, Nat.reduceMul, Nat.reduceSub, Nat.reduceLT, Nat.reduceLeDiff, Int.reduceToNat, reduceCtorEq, Int.reduceEq, Int.reduceBEq, Int.reduceLE, Int.reduceLT]; refine callP (hall) ?_; refine k _ _ _ _ _ ?_; clear k K
  repeat (first | refine st_end rfl ?_ | ((first | refine st_op fun K k => ?_ | refine st_op0 fun K k => ?_ | refine st_opT fun K k => ?_ | refine st_grd rfl fun A B C k k' k2 => ?_ | refine st_cond fun A B k k' => ?_); simp only [go_sem, reduceIte, Nat.reduceEqDiff, Nat.reduceAdd, Nat.reduceMul, Nat.reduceSub, Nat.reduceLT, Nat.reduceLeDiff, Int.reduceToNat, reduceCtorEq, Int.reduceEq, Int.reduceBEq, Int.reduceLE, Int.reduceLT]; first | (refine k _ _ _ _ _ ?_; clear k K) | (refine k ?_; clear k k' k2 A B C) | (refine k' ?_; clear k k' k2 A B C) | (refine k2 ?_; clear k k' k2 A B C) | (refine k ?_; clear k k' A B) | (refine k' ?_; clear k k' A B)))
  (first | refine st_op fun K k => ?_ | refine st_opT fun K k => ?_); simp only [go_sem, reduceIte, Nat.reduceEqDiff, Nat.reduceAdd, Nat.reduceMul, Nat.reduceSub, Nat.reduceLT, Nat.reduceLeDiff, Int.reduceToNat, reduceCtorEq, Int.reduceEq, Int.reduceBEq, Int.reduceLE, Int.reduceLT]; refine callP (hdo) ?_; refine k _ _ _ _ _ ?_; clear k K
  repeat (first | refine st_end rfl ?_ | ((first | refine st_op fun K k => ?_ | refine st_op0 fun K k => ?_ | refine st_opT fun K k => ?_ | refine st_grd rfl fun A B C k k' k2 => ?_ | refine st_cond fun A B k k' => ?_); simp only [go_sem, reduceIte, Nat.reduceEqDiff, Nat.reduceAdd, Nat.reduceMul, Nat.reduceSub, Nat.reduceLT, Nat.reduceLeDiff, Int.reduceToNat, reduceCtorEq, Int.reduceEq, Int.reduceBEq, Int.reduceLE, Int.reduceLT, DP.cells]; first | (refine k _ _ _ _ _ ?_; clear k K) | (refine k ?_; clear k k' k2 A B C) | (refine k' ?_; clear k k' k2 A B C) | (refine k2 ?_; clear k k' k2 A B C) | (refine k ?_; clear k k' A B) | (refine k' ?_; clear k k' A B)))
  refine hK _ ?_; clear hK K
  refine W.seqK fun K hK => W.code (N := 99) [51] hN ?_
  repeat (first | refine st_end rfl ?_ | ((first | refine st_op fun K k => ?_ | refine st_op0 fun K k => ?_ | refine st_opT fun K k => ?_ | refine st_grd rfl fun A B C k k' k2 => ?_ | refine st_cond fun A B k k' => ?_); simp only [go_sem, reduceIte, Nat.reduceEqDiff, Nat.reduceAdd, Nat.reduceMul, Nat.reduceSub, Nat.reduceLT, Nat.reduceLeDiff, Int.reduceToNat, reduceCtorEq, Int.reduceEq, Int.reduceBEq, Int.reduceLE, Int.reduceLT]; first | (refine k _ _ _ _ _ ?_; clear k K) | (refine k ?_; clear k k' k2 A B C) | (refine k' ?_; clear k k' k2 A B C) | (refine k2 ?_; clear k k' k2 A B C) | (refine k ?_; clear k k' A B) | (refine k' ?_; clear k k' A B)))
  refine W.loopP (fun i : Nat => ⟨[(7, .v (.bool true)), (8, .ref 0 0), (9, depsD l), (10, .ref 1 0), (11, .v (.int .i64 i))],
      [(0, .box [.s [116], strsD cols, rowsD rs]), (1, .box [strsD src, .s dst])], 2, []⟩)
    (fun i => i ≤ l.length) (fun i => l.length - i) 0 (Nat.zero_le _) (Into.le ?_ ?_ (Nat.le_refl _) rfl) fun i hi => W.code (N := 99) [51] hN ?_
  · simp only [go_sem, reduceIte, Nat.reduceEqDiff, Nat.reduceAdd, Nat.reduceMul, Nat.reduceSub, Nat.reduceLT, Nat.reduceLeDiff, Int.reduceToNat, reduceCtorEq, Int.reduceEq, Int.reduceBEq, Int.reduceLE, Int.reduceLT]
    exact LeD.refl _
  · simp only [go_sem, reduceIte, Nat.reduceEqDiff, Nat.reduceAdd, Nat.reduceMul, Nat.reduceSub, Nat.reduceLT, Nat.reduceLeDiff, Int.reduceToNat, reduceCtorEq, Int.reduceEq, Int.reduceBEq, Int.reduceLE, Int.reduceLT]
  repeat (first | refine st_end rfl ?_ | ((first | refine st_op fun K k => ?_ | refine st_op0 fun K k => ?_ | refine st_opT fun K k => ?_ | refine st_grd rfl fun A B C k k' k2 => ?_ | refine st_cond fun A B k k' => ?_); simp only [go_sem, reduceIte, Nat.reduceEqDiff, Nat.reduceAdd, Nat.reduceMul, Nat.reduceSub, Nat.reduceLT, Nat.reduceLeDiff, Int.reduceToNat, reduceCtorEq, Int.reduceEq, Int.reduceBEq, Int.reduceLE, Int.reduceLT]; first | (refine k _ _ _ _ _ ?_; clear k K) | (refine k ?_; clear k k' k2 A B C) | (refine k' ?_; clear k k' k2 A B C) | (refine k2 ?_; clear k k' k2 A B C) | (refine k ?_; clear k k' A B) | (refine k' ?_; clear k k' A B)))
  refine st_cond fun A B a b => ?_; simp only [go_sem, reduceIte, Nat.reduceEqDiff, Nat.reduceAdd, Nat.reduceMul, Nat.reduceSub, Nat.reduceLT, Nat.reduceLeDiff, Int.reduceToNat, reduceCtorEq, Int.reduceEq, Int.reduceBEq, Int.reduceLE, Int.reduceLT]; refine ⟨fun g => a ?_, fun g => b ?_⟩ <;> clear a b A B
  · obtain ⟨d, hd⟩ := getS (l := l) (i := i) (by omega)
    have hdm := hal2 d (List.mem_of_getElem? hd)
    have w5 : IntKind.wrap .i64 ((i : Int) + 1) = ((i + 1 : Nat) : Int) := wrapTo (by omega)
    repeat (first | refine st_end rfl ?_ | ((first | refine st_op fun K k => ?_ | refine st_op0 fun K k => ?_ | refine st_opT fun K k => ?_ | refine st_grd rfl fun A B C k k' k2 => ?_ | refine st_cond fun A B k k' => ?_); simp only [go_sem, reduceIte, Nat.reduceEqDiff, Nat.reduceAdd, Nat.reduceMul, Nat.reduceSub, Nat.reduceLT, Nat.reduceLeDiff, Int.reduceToNat, reduceCtorEq, Int.reduceEq, Int.reduceBEq, Int.reduceLE, Int.reduceLT, hd]; first | (refine k _ _ _ _ _ ?_; clear k K) | (refine k ?_; clear k k' k2 A B C) | (refine k' ?_; clear k k' k2 A B C) | (refine k2 ?_; clear k k' k2 A B C) | (refine k ?_; clear k k' A B) | (refine k' ?_; clear k k' A B)))
    (first | refine st_op fun K k => ?_ | refine st_opT fun K k => ?_); simp only [go_sem, reduceIte, Nat.reduceEqDiff, Nat.reduceAdd, Nat.reduceMul, Nat.reduceSub, Nat.reduceLT, Nat.reduceLeDiff, Int.reduceToNat, reduceCtorEq, Int.reduceEq, Int.reduceBEq, Int.reduceLE, Int.reduceLT]; refine callP (f26_flat cols rs d (by omega)) ?_; refine k _ _ _ _ _ ?_; clear k K
    repeat (first | refine st_end rfl ?_ | ((first | refine st_op fun K k => ?_ | refine st_op0 fun K k => ?_ | refine st_opT fun K k => ?_ | refine st_grd rfl fun A B C k k' k2 => ?_ | refine st_cond fun A B k k' => ?_); simp only [go_sem, reduceIte, Nat.reduceEqDiff, Nat.reduceAdd, Nat.reduceMul, Nat.reduceSub, Nat.reduceLT, Nat.reduceLeDiff, Int.reduceToNat, reduceCtorEq, Int.reduceEq, Int.reduceBEq, Int.reduceLE, Int.reduceLT, hd]; first | (refine k _ _ _ _ _ ?_; clear k K) | (refine k ?_; clear k k' k2 A B C) | (refine k' ?_; clear k k' k2 A B C) | (refine k2 ?_; clear k k' k2 A B C) | (refine k ?_; clear k k' A B) | (refine k' ?_; clear k k' A B)))
    (first | refine st_op fun K k => ?_ | refine st_opT fun K k => ?_); simp only [go_sem, reduceIte, Nat.reduceEqDiff, Nat.reduceAdd, Nat.reduceMul, Nat.reduceSub, Nat.reduceLT, Nat.reduceLeDiff, Int.reduceToNat, reduceCtorEq, Int.reduceEq, Int.reduceBEq, Int.reduceLE, Int.reduceLT]; refine callP (f30_flat cols rs d (by omega)) ?_; refine k _ _ _ _ _ ?_; clear k K
    repeat (first | refine st_end rfl ?_ | ((first | refine st_op fun K k => ?_ | refine st_op0 fun K k => ?_ | refine st_opT fun K k => ?_ | refine st_grd rfl fun A B C k k' k2 => ?_ | refine st_cond fun A B k k' => ?_); simp only [go_sem, reduceIte, Nat.reduceEqDiff, Nat.reduceAdd, Nat.reduceMul, Nat.reduceSub, Nat.reduceLT, Nat.reduceLeDiff, Int.reduceToNat, reduceCtorEq, Int.reduceEq, Int.reduceBEq, Int.reduceLE, Int.reduceLT, w5, bne_self_eq_false, beq_self_eq_true]; first | (refine k _ _ _ _ _ ?_; clear k K) | (refine k ?_; clear k k' k2 A B C) | (refine k' ?_; clear k k' k2 A B C) | (refine k2 ?_; clear k k' k2 A B C) | (refine k ?_; clear k k' A B) | (refine k' ?_; clear k k' A B)))
    refine ⟨i + 1, by omega, by omega, Into.le ?_ ?_ (Nat.le_refl _) rfl⟩
    · simp only [go_sem, reduceIte, Nat.reduceEqDiff, Nat.reduceAdd, Nat.reduceMul, Nat.reduceSub, Nat.reduceLT, Nat.reduceLeDiff, Int.reduceToNat, reduceCtorEq, Int.reduceEq, Int.reduceBEq, Int.reduceLE, Int.reduceLT]
    · simp only [go_sem, reduceIte, Nat.reduceEqDiff, Nat.reduceAdd, Nat.reduceMul, Nat.reduceSub, Nat.reduceLT, Nat.reduceLeDiff, Int.reduceToNat, reduceCtorEq, Int.reduceEq, Int.reduceBEq, Int.reduceLE, Int.reduceLT]
  obtain rfl : i = l.length := by omega
  refine iq Into.refl ?_
  refine hK _ ?_; clear hK K
  refine W.seqK fun K hK => W.code (N := 99) [51] hN ?_
  have b1 : rs.length ≤ maxLen := by unfold maxLen; omega
  have b2 : rs.length * 24 ≤ 140737488355328 := by omega
  have b3 : rs.length + 1 ≤ maxLen := by unfold maxLen; omega
  have b4 : (rs.length + 1) * 24 ≤ 140737488355328 := by omega
  repeat (first | refine st_end rfl ?_ | ((first | refine st_op fun K k => ?_ | refine st_op0 fun K k => ?_ | refine st_opT fun K k => ?_ | refine st_grd rfl fun A B C k k' k2 => ?_ | refine st_cond fun A B k k' => ?_); simp only [go_sem, reduceIte, Nat.reduceEqDiff, Nat.reduceAdd, Nat.reduceMul, Nat.reduceSub, Nat.reduceLT, Nat.reduceLeDiff, Int.reduceToNat, reduceCtorEq, Int.reduceEq, Int.reduceBEq, Int.reduceLE, Int.reduceLT, b1, b2, b3, b4, Nat.zero_add]; first | (refine k _ _ _ _ _ ?_; clear k K) | (refine k ?_; clear k k' k2 A B C) | (refine k' ?_; clear k k' k2 A B C) | (refine k2 ?_; clear k k' k2 A B C) | (refine k ?_; clear k k' A B) | (refine k' ?_; clear k k' A B)))
  refine st_op fun K k => ?_
  simp only [go_sem, reduceIte, Nat.reduceEqDiff, Nat.reduceAdd, Nat.reduceMul, Nat.reduceSub, Nat.reduceLT, Nat.reduceLeDiff, Int.reduceToNat, reduceCtorEq, Int.reduceEq, Int.reduceBEq, Int.reduceLE, Int.reduceLT, b1, b2, b3, b4, Nat.zero_add, List.length_nil, List.nil_append]
  refine ⟨fun e he => by obtain ⟨q, _, rfl⟩ := List.mem_map.1 he; rfl, k _ _ _ _ _ ?_⟩; clear k K
  repeat (first | refine st_end rfl ?_ | ((first | refine st_op fun K k => ?_ | refine st_op0 fun K k => ?_ | refine st_opT fun K k => ?_ | refine st_grd rfl fun A B C k k' k2 => ?_ | refine st_cond fun A B k k' => ?_); simp only [go_sem, reduceIte, Nat.reduceEqDiff, Nat.reduceAdd, Nat.reduceMul, Nat.reduceSub, Nat.reduceLT, Nat.reduceLeDiff, Int.reduceToNat, reduceCtorEq, Int.reduceEq, Int.reduceBEq, Int.reduceLE, Int.reduceLT]; first | (refine k _ _ _ _ _ ?_; clear k K) | (refine k ?_; clear k k' k2 A B C) | (refine k' ?_; clear k k' k2 A B C) | (refine k2 ?_; clear k k' k2 A B C) | (refine k ?_; clear k k' A B) | (refine k' ?_; clear k k' A B)))
  refine st_op fun K k => ?_
  simp only [go_sem, reduceIte, Nat.reduceEqDiff, Nat.reduceAdd, Nat.reduceMul, Nat.reduceSub, Nat.reduceLT, Nat.reduceLeDiff, Int.reduceToNat, reduceCtorEq, Int.reduceEq, Int.reduceBEq, Int.reduceLE, Int.reduceLT, b3, b4, List.length_map]
  refine k _ _ _ _ _ ?_; clear k K
  repeat (first | refine st_end rfl ?_ | ((first | refine st_op fun K k => ?_ | refine st_op0 fun K k => ?_ | refine st_opT fun K k => ?_ | refine st_grd rfl fun A B C k k' k2 => ?_ | refine st_cond fun A B k k' => ?_); simp only [go_sem, reduceIte, Nat.reduceEqDiff, Nat.reduceAdd, Nat.reduceMul, Nat.reduceSub, Nat.reduceLT, Nat.reduceLeDiff, Int.reduceToNat, reduceCtorEq, Int.reduceEq, Int.reduceBEq, Int.reduceLE, Int.reduceLT]; first | (refine k _ _ _ _ _ ?_; clear k K) | (refine k ?_; clear k k' k2 A B C) | (refine k' ?_; clear k k' k2 A B C) | (refine k2 ?_; clear k k' k2 A B C) | (refine k ?_; clear k k' A B) | (refine k' ?_; clear k k' A B)))
  refine hK _ (W.into (Into.frz [4] ?_) ?_); clear hK K
  · simp only [go_sem, reduceIte, Nat.reduceEqDiff, Nat.reduceAdd, Nat.reduceMul, Nat.reduceSub, Nat.reduceLT, Nat.reduceLeDiff, Int.reduceToNat, reduceCtorEq, Int.reduceEq, Int.reduceBEq, Int.reduceLE, Int.reduceLT]
    intro e he
    rcases List.mem_append.1 he with he | he
    · obtain ⟨q, _, rfl⟩ := List.mem_map.1 he; rfl
    · simp at he; subst he; rfl
  refine W.code (N := 99) [51] hN ?_
  have hc27 := f27_ok l src (fun s h => by have := hs3 s h; omega) (fun d h => by have := (hal2 d h).2.1; omega) (by omega)
  have hc31 := f31_ok l src (by omega) (by omega) (fun d h => by have := (hal2 d h).1; omega)
  rw [refC_eq] at hc31
  have hc32 := f32_ok l ⟨src, dst⟩ (by omega) (by show src.length ≤ 1000; omega) (fun s h => by have := hs3 s h; omega) (fun d h => by have := (hal2 d h).2.1; omega)
  have hc33 := f33_ok l ⟨src, dst⟩ (by omega) (by show src.length ≤ 1000; omega) (fun d h => by have := (hal2 d h).1; omega)
  have hfl : decide (rs.length + 1 = (List.map (fun r => [D.sl (List.map FV.cells r) 7]) rs ++ [[D.v (Value.slice none 0 0)]]).length) = true := by simp
  simp only [go_sem, reduceIte, Nat.reduceEqDiff, Nat.reduceAdd, Nat.reduceMul, Nat.reduceSub, Nat.reduceLT, Nat.reduceLeDiff, Int.reduceToNat, reduceCtorEq, Int.reduceEq, Int.reduceBEq, Int.reduceLE, Int.reduceLT, hfl, cond_true]
  repeat (first | refine st_end rfl ?_ | ((first | refine st_op fun K k => ?_ | refine st_op0 fun K k => ?_ | refine st_opT fun K k => ?_ | refine st_grd rfl fun A B C k k' k2 => ?_ | refine st_cond fun A B k k' => ?_); simp only [go_sem, reduceIte, Nat.reduceEqDiff, Nat.reduceAdd, Nat.reduceMul, Nat.reduceSub, Nat.reduceLT, Nat.reduceLeDiff, Int.reduceToNat, reduceCtorEq, Int.reduceEq, Int.reduceBEq, Int.reduceLE, Int.reduceLT]; first | (refine k _ _ _ _ _ ?_; clear k K) | (refine k ?_; clear k k' k2 A B C) | (refine k' ?_; clear k k' k2 A B C) | (refine k2 ?_; clear k k' k2 A B C) | (refine k ?_; clear k k' A B) | (refine k' ?_; clear k k' A B)))
  (first | refine st_op fun K k => ?_ | refine st_opT fun K k => ?_); simp only [go_sem, reduceIte, Nat.reduceEqDiff, Nat.reduceAdd, Nat.reduceMul, Nat.reduceSub, Nat.reduceLT, Nat.reduceLeDiff, Int.reduceToNat, reduceCtorEq, Int.reduceEq, Int.reduceBEq, Int.reduceLE, Int.reduceLT]; refine callP (hc27) ?_; refine k _ _ _ _ _ ?_; clear k K
  repeat (first | refine st_end rfl ?_ | ((first | refine st_op fun K k => ?_ | refine st_op0 fun K k => ?_ | refine st_opT fun K k => ?_ | refine st_grd rfl fun A B C k k' k2 => ?_ | refine st_cond fun A B k k' => ?_); simp only [go_sem, reduceIte, Nat.reduceEqDiff, Nat.reduceAdd, Nat.reduceMul, Nat.reduceSub, Nat.reduceLT, Nat.reduceLeDiff, Int.reduceToNat, reduceCtorEq, Int.reduceEq, Int.reduceBEq, Int.reduceLE, Int.reduceLT]; first | (refine k _ _ _ _ _ ?_; clear k K) | (refine k ?_; clear k k' k2 A B C) | (refine k' ?_; clear k k' k2 A B C) | (refine k2 ?_; clear k k' k2 A B C) | (refine k ?_; clear k k' A B) | (refine k' ?_; clear k k' A B)))
  (first | refine st_op fun K k => ?_ | refine st_opT fun K k => ?_); simp only [go_sem, reduceIte, Nat.reduceEqDiff, Nat.reduceAdd, Nat.reduceMul, Nat.reduceSub, Nat.reduceLT, Nat.reduceLeDiff, Int.reduceToNat, reduceCtorEq, Int.reduceEq, Int.reduceBEq, Int.reduceLE, Int.reduceLT]; refine callP (hc31) ?_; refine k _ _ _ _ _ ?_; clear k K
  repeat (first | refine st_end rfl ?_ | ((first | refine st_op fun K k => ?_ | refine st_op0 fun K k => ?_ | refine st_opT fun K k => ?_ | refine st_grd rfl fun A B C k k' k2 => ?_ | refine st_cond fun A B k k' => ?_); simp only [go_sem, reduceIte, Nat.reduceEqDiff, Nat.reduceAdd, Nat.reduceMul, Nat.reduceSub, Nat.reduceLT, Nat.reduceLeDiff, Int.reduceToNat, reduceCtorEq, Int.reduceEq, Int.reduceBEq, Int.reduceLE, Int.reduceLT]; first | (refine k _ _ _ _ _ ?_; clear k K) | (refine k ?_; clear k k' k2 A B C) | (refine k' ?_; clear k k' k2 A B C) | (refine k2 ?_; clear k k' k2 A B C) | (refine k ?_; clear k k' A B) | (refine k' ?_; clear k k' A B)))
  (first | refine st_op fun K k => ?_ | refine st_opT fun K k => ?_); simp only [go_sem, reduceIte, Nat.reduceEqDiff, Nat.reduceAdd, Nat.reduceMul, Nat.reduceSub, Nat.reduceLT, Nat.reduceLeDiff, Int.reduceToNat, reduceCtorEq, Int.reduceEq, Int.reduceBEq, Int.reduceLE, Int.reduceLT]; refine callP (f26_flat cols rs ⟨src, dst⟩ (by show src.length ≤ 1000000; omega)) ?_; refine k _ _ _ _ _ ?_; clear k K
  repeat (first | refine st_end rfl ?_ | ((first | refine st_op fun K k => ?_ | refine st_op0 fun K k => ?_ | refine st_opT fun K k => ?_ | refine st_grd rfl fun A B C k k' k2 => ?_ | refine st_cond fun A B k k' => ?_); simp only [go_sem, reduceIte, Nat.reduceEqDiff, Nat.reduceAdd, Nat.reduceMul, Nat.reduceSub, Nat.reduceLT, Nat.reduceLeDiff, Int.reduceToNat, reduceCtorEq, Int.reduceEq, Int.reduceBEq, Int.reduceLE, Int.reduceLT]; first | (refine k _ _ _ _ _ ?_; clear k K) | (refine k ?_; clear k k' k2 A B C) | (refine k' ?_; clear k k' k2 A B C) | (refine k2 ?_; clear k k' k2 A B C) | (refine k ?_; clear k k' A B) | (refine k' ?_; clear k k' A B)))
  (first | refine st_op fun K k => ?_ | refine st_opT fun K k => ?_); simp only [go_sem, reduceIte, Nat.reduceEqDiff, Nat.reduceAdd, Nat.reduceMul, Nat.reduceSub, Nat.reduceLT, Nat.reduceLeDiff, Int.reduceToNat, reduceCtorEq, Int.reduceEq, Int.reduceBEq, Int.reduceLE, Int.reduceLT]; refine callP (f30_flat cols rs ⟨src, dst⟩ (by show src.length ≤ 1000000; omega)) ?_; refine k _ _ _ _ _ ?_; clear k K
  repeat (first | refine st_end rfl ?_ | ((first | refine st_op fun K k => ?_ | refine st_op0 fun K k => ?_ | refine st_opT fun K k => ?_ | refine st_grd rfl fun A B C k k' k2 => ?_ | refine st_cond fun A B k k' => ?_); simp only [go_sem, reduceIte, Nat.reduceEqDiff, Nat.reduceAdd, Nat.reduceMul, Nat.reduceSub, Nat.reduceLT, Nat.reduceLeDiff, Int.reduceToNat, reduceCtorEq, Int.reduceEq, Int.reduceBEq, Int.reduceLE, Int.reduceLT, beq_self_eq_true]; first | (refine k _ _ _ _ _ ?_; clear k K) | (refine k ?_; clear k k' k2 A B C) | (refine k' ?_; clear k k' k2 A B C) | (refine k2 ?_; clear k k' k2 A B C) | (refine k ?_; clear k k' A B) | (refine k' ?_; clear k k' A B)))
  (first | refine st_op fun K k => ?_ | refine st_opT fun K k => ?_); simp only [go_sem, reduceIte, Nat.reduceEqDiff, Nat.reduceAdd, Nat.reduceMul, Nat.reduceSub, Nat.reduceLT, Nat.reduceLeDiff, Int.reduceToNat, reduceCtorEq, Int.reduceEq, Int.reduceBEq, Int.reduceLE, Int.reduceLT]; refine callP (f26_rag cols rs ⟨src, dst⟩ (by show src.length ≤ 1000000; omega) hne) ?_; refine k _ _ _ _ _ ?_; clear k K
  repeat (first | refine st_end rfl ?_ | ((first | refine st_op fun K k => ?_ | refine st_op0 fun K k => ?_ | refine st_opT fun K k => ?_ | refine st_grd rfl fun A B C k k' k2 => ?_ | refine st_cond fun A B k k' => ?_); simp only [go_sem, reduceIte, Nat.reduceEqDiff, Nat.reduceAdd, Nat.reduceMul, Nat.reduceSub, Nat.reduceLT, Nat.reduceLeDiff, Int.reduceToNat, reduceCtorEq, Int.reduceEq, Int.reduceBEq, Int.reduceLE, Int.reduceLT]; first | (refine k _ _ _ _ _ ?_; clear k K) | (refine k ?_; clear k k' k2 A B C) | (refine k' ?_; clear k k' k2 A B C) | (refine k2 ?_; clear k k' k2 A B C) | (refine k ?_; clear k k' A B) | (refine k' ?_; clear k k' A B)))
  (first | refine st_op fun K k => ?_ | refine st_opT fun K k => ?_); simp only [go_sem, reduceIte, Nat.reduceEqDiff, Nat.reduceAdd, Nat.reduceMul, Nat.reduceSub, Nat.reduceLT, Nat.reduceLeDiff, Int.reduceToNat, reduceCtorEq, Int.reduceEq, Int.reduceBEq, Int.reduceLE, Int.reduceLT]; refine callP (f28_ok (sortS (closL l src)) (sortS (closL l src))) ?_; refine k _ _ _ _ _ ?_; clear k K
  repeat (first | refine st_end rfl ?_ | ((first | refine st_op fun K k => ?_ | refine st_op0 fun K k => ?_ | refine st_opT fun K k => ?_ | refine st_grd rfl fun A B C k k' k2 => ?_ | refine st_cond fun A B k k' => ?_); simp only [go_sem, reduceIte, Nat.reduceEqDiff, Nat.reduceAdd, Nat.reduceMul, Nat.reduceSub, Nat.reduceLT, Nat.reduceLeDiff, Int.reduceToNat, reduceCtorEq, Int.reduceEq, Int.reduceBEq, Int.reduceLE, Int.reduceLT, decide_true]; first | (refine k _ _ _ _ _ ?_; clear k K) | (refine k ?_; clear k k' k2 A B C) | (refine k' ?_; clear k k' k2 A B C) | (refine k2 ?_; clear k k' k2 A B C) | (refine k ?_; clear k k' A B) | (refine k' ?_; clear k k' A B)))
  (first | refine st_op fun K k => ?_ | refine st_opT fun K k => ?_); simp only [go_sem, reduceIte, Nat.reduceEqDiff, Nat.reduceAdd, Nat.reduceMul, Nat.reduceSub, Nat.reduceLT, Nat.reduceLeDiff, Int.reduceToNat, reduceCtorEq, Int.reduceEq, Int.reduceBEq, Int.reduceLE, Int.reduceLT]; refine callP (hc32) ?_; refine k _ _ _ _ _ ?_; clear k K
  repeat (first | refine st_end rfl ?_ | ((first | refine st_op fun K k => ?_ | refine st_op0 fun K k => ?_ | refine st_opT fun K k => ?_ | refine st_grd rfl fun A B C k k' k2 => ?_ | refine st_cond fun A B k k' => ?_); simp only [go_sem, reduceIte, Nat.reduceEqDiff, Nat.reduceAdd, Nat.reduceMul, Nat.reduceSub, Nat.reduceLT, Nat.reduceLeDiff, Int.reduceToNat, reduceCtorEq, Int.reduceEq, Int.reduceBEq, Int.reduceLE, Int.reduceLT]; first | (refine k _ _ _ _ _ ?_; clear k K) | (refine k ?_; clear k k' k2 A B C) | (refine k' ?_; clear k k' k2 A B C) | (refine k2 ?_; clear k k' k2 A B C) | (refine k ?_; clear k k' A B) | (refine k' ?_; clear k k' A B)))
  (first | refine st_op fun K k => ?_ | refine st_opT fun K k => ?_); simp only [go_sem, reduceIte, Nat.reduceEqDiff, Nat.reduceAdd, Nat.reduceMul, Nat.reduceSub, Nat.reduceLT, Nat.reduceLeDiff, Int.reduceToNat, reduceCtorEq, Int.reduceEq, Int.reduceBEq, Int.reduceLE, Int.reduceLT]; refine callP (hc33) ?_; refine k _ _ _ _ _ ?_; clear k K
  repeat (first | refine st_end rfl ?_ | ((first | refine st_op fun K k => ?_ | refine st_op0 fun K k => ?_ | refine st_opT fun K k => ?_ | refine st_grd rfl fun A B C k k' k2 => ?_ | refine st_cond fun A B k k' => ?_); simp only [go_sem, reduceIte, Nat.reduceEqDiff, Nat.reduceAdd, Nat.reduceMul, Nat.reduceSub, Nat.reduceLT, Nat.reduceLeDiff, Int.reduceToNat, reduceCtorEq, Int.reduceEq, Int.reduceBEq, Int.reduceLE, Int.reduceLT, beq_self_eq_true]; first | (refine k _ _ _ _ _ ?_; clear k K) | (refine k ?_; clear k k' k2 A B C) | (refine k' ?_; clear k k' k2 A B C) | (refine k2 ?_; clear k k' k2 A B C) | (refine k ?_; clear k k' A B) | (refine k' ?_; clear k k' A B)))
  refine Done.mk (.inr rfl) Into.refl ?_ [] 0 ?_ ?_ ?_ ?_
  · rfl
  · rfl
  · simp only [go_sem, reduceIte, Nat.reduceEqDiff, Nat.reduceAdd, Nat.reduceMul, Nat.reduceSub, Nat.reduceLT, Nat.reduceLeDiff, Int.reduceToNat, reduceCtorEq, Int.reduceEq, Int.reduceBEq, Int.reduceLE, Int.reduceLT, beq_self_eq_true]
  · trivial
  · rfl
end Go.Proofs.YtjgooecohepkoaaGreatDoor
