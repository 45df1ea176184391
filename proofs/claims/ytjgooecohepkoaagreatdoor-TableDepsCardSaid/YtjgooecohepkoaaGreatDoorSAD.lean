/- Contracts of the functions that the statement reaches. -/
import Derived.Test.YtjgooecohepkoaaGreatDoorSAC
set_option linter.unusedVariables false
set_option linter.unusedSimpArgs false
namespace Go.Proofs.YtjgooecohepkoaaGreatDoor
open Go Go.Abs
set_option linter.unusedSimpArgs false
theorem f56_ok (xs : List (List UInt8)) (x : List UInt8) : FnOK sys 56 [strsD xs, .s x] [] (.v (.int .i64 (idxFrom xs x 0))) [] := by
  refine FnOK.intro Tryz.f56 (by kernel_rfl) rfl rfl [.tmp 4] rfl 0 rfl (Nat.le_of_ble_eq_true rfl) rfl rfl fun E hN h0 => W.bound 0 rfl fun hb => W.code (N := 19) [] hN ?_
  simp only [List.length_map, maxLen] at hb
  repeat (first | refine st_end rfl ?_ | ((first | refine st_op fun K k => ?_ | refine st_op0 fun K k => ?_ | refine st_opT fun K k => ?_ | refine st_grd rfl fun A B C k k' k2 => ?_ | refine st_cond fun A B k k' => ?_); simp only [go_sem, reduceIte, Nat.reduceEqDiff, Nat.reduceAdd, Nat.reduceMul, Nat.reduceSub, Nat.reduceLT, Nat.reduceLeDiff, Int.reduceToNat, reduceCtorEq, Int.reduceEq, Int.reduceBEq, Int.reduceLE, Int.reduceLT]; first | (refine k _ _ _ _ _ ?_; clear k K) | (refine k ?_; clear k k' k2 A B C) | (refine k' ?_; clear k k' k2 A B C) | (refine k2 ?_; clear k k' k2 A B C) | (refine k ?_; clear k k' A B) | (refine k' ?_; clear k k' A B)))
  refine W.loopP (fun i : Nat => ⟨[(0, strsD xs), (1, .s x), (5, .v (.int .i64 i))], [], 0, []⟩)
    (fun i => i ≤ xs.length ∧ idxFrom (xs.drop i) x i = idxFrom xs x 0) (fun i => xs.length - i) 0 ⟨by omega, rfl⟩ (Into.le ?_ trivial (Nat.le_refl _) rfl) fun i hi => W.code (N := 19) [] hN ?_
  · simp only [go_sem, reduceIte, Nat.reduceEqDiff, Nat.reduceAdd, Nat.reduceMul, Nat.reduceSub, Nat.reduceLT, Nat.reduceLeDiff, Int.reduceToNat, reduceCtorEq, Int.reduceEq, Int.reduceBEq, Int.reduceLE, Int.reduceLT]
    exact LeD.refl _
  repeat (first | refine st_end rfl ?_ | ((first | refine st_op fun K k => ?_ | refine st_op0 fun K k => ?_ | refine st_opT fun K k => ?_ | refine st_grd rfl fun A B C k k' k2 => ?_ | refine st_cond fun A B k k' => ?_); simp only [go_sem, reduceIte, Nat.reduceEqDiff, Nat.reduceAdd, Nat.reduceMul, Nat.reduceSub, Nat.reduceLT, Nat.reduceLeDiff, Int.reduceToNat, reduceCtorEq, Int.reduceEq, Int.reduceBEq, Int.reduceLE, Int.reduceLT]; first | (refine k _ _ _ _ _ ?_; clear k K) | (refine k ?_; clear k k' k2 A B C) | (refine k' ?_; clear k k' k2 A B C) | (refine k2 ?_; clear k k' k2 A B C) | (refine k ?_; clear k k' A B) | (refine k' ?_; clear k k' A B)))
  refine st_cond fun A B a b => ?_; simp only [go_sem, reduceIte, Nat.reduceEqDiff, Nat.reduceAdd, Nat.reduceMul, Nat.reduceSub, Nat.reduceLT, Nat.reduceLeDiff, Int.reduceToNat, reduceCtorEq, Int.reduceEq, Int.reduceBEq, Int.reduceLE, Int.reduceLT]; refine ⟨fun g => a ?_, fun g => b ?_⟩ <;> clear a b A B
  · obtain ⟨y, hy⟩ := getS (l := xs) (i := i) (by omega)
    have hd := hi.2
    rw [drop_at hy, idxFrom] at hd
    repeat (first | refine st_end rfl ?_ | ((first | refine st_op fun K k => ?_ | refine st_op0 fun K k => ?_ | refine st_opT fun K k => ?_ | refine st_grd rfl fun A B C k k' k2 => ?_ | refine st_cond fun A B k k' => ?_); simp only [go_sem, reduceIte, Nat.reduceEqDiff, Nat.reduceAdd, Nat.reduceMul, Nat.reduceSub, Nat.reduceLT, Nat.reduceLeDiff, Int.reduceToNat, reduceCtorEq, Int.reduceEq, Int.reduceBEq, Int.reduceLE, Int.reduceLT, hy]; first | (refine k _ _ _ _ _ ?_; clear k K) | (refine k ?_; clear k k' k2 A B C) | (refine k' ?_; clear k k' k2 A B C) | (refine k2 ?_; clear k k' k2 A B C) | (refine k ?_; clear k k' A B) | (refine k' ?_; clear k k' A B)))
    refine st_cond fun A B a b => ?_; simp only [go_sem, reduceIte, Nat.reduceEqDiff, Nat.reduceAdd, Nat.reduceMul, Nat.reduceSub, Nat.reduceLT, Nat.reduceLeDiff, Int.reduceToNat, reduceCtorEq, Int.reduceEq, Int.reduceBEq, Int.reduceLE, Int.reduceLT]; refine ⟨fun g => a ?_, fun g => b ?_⟩ <;> clear a b A B
    · repeat (first | refine st_end rfl ?_ | ((first | refine st_op fun K k => ?_ | refine st_op0 fun K k => ?_ | refine st_opT fun K k => ?_ | refine st_grd rfl fun A B C k k' k2 => ?_ | refine st_cond fun A B k k' => ?_); simp only [go_sem, reduceIte, Nat.reduceEqDiff, Nat.reduceAdd, Nat.reduceMul, Nat.reduceSub, Nat.reduceLT, Nat.reduceLeDiff, Int.reduceToNat, reduceCtorEq, Int.reduceEq, Int.reduceBEq, Int.reduceLE, Int.reduceLT]; first | (refine k _ _ _ _ _ ?_; clear k K) | (refine k ?_; clear k k' k2 A B C) | (refine k' ?_; clear k k' k2 A B C) | (refine k2 ?_; clear k k' k2 A B C) | (refine k ?_; clear k k' A B) | (refine k' ?_; clear k k' A B)))
      refine iq Into.refl (Done.mk (.inr rfl) Into.refl rfl [] 0 rfl ?_ trivial rfl)
      simp only [go_sem, reduceIte, Nat.reduceEqDiff, Nat.reduceAdd, Nat.reduceMul, Nat.reduceSub, Nat.reduceLT, Nat.reduceLeDiff, Int.reduceToNat, reduceCtorEq, Int.reduceEq, Int.reduceBEq, Int.reduceLE, Int.reduceLT]
      have e : y = x := by simpa using g
      rw [if_pos e.symm] at hd
      exact hd
    · repeat (first | refine st_end rfl ?_ | ((first | refine st_op fun K k => ?_ | refine st_op0 fun K k => ?_ | refine st_opT fun K k => ?_ | refine st_grd rfl fun A B C k k' k2 => ?_ | refine st_cond fun A B k k' => ?_); simp only [go_sem, reduceIte, Nat.reduceEqDiff, Nat.reduceAdd, Nat.reduceMul, Nat.reduceSub, Nat.reduceLT, Nat.reduceLeDiff, Int.reduceToNat, reduceCtorEq, Int.reduceEq, Int.reduceBEq, Int.reduceLE, Int.reduceLT]; first | (refine k _ _ _ _ _ ?_; clear k K) | (refine k ?_; clear k k' k2 A B C) | (refine k' ?_; clear k k' k2 A B C) | (refine k2 ?_; clear k k' k2 A B C) | (refine k ?_; clear k k' A B) | (refine k' ?_; clear k k' A B)))
      have e : ¬ y = x := by simpa using g
      rw [if_neg fun h => e h.symm] at hd
      refine ⟨i + 1, ⟨by omega, hd⟩, by omega, Into.le ?_ trivial (Nat.le_refl _) rfl⟩
      simp only [go_sem, reduceIte, Nat.reduceEqDiff, Nat.reduceAdd, Nat.reduceMul, Nat.reduceSub, Nat.reduceLT, Nat.reduceLeDiff, Int.reduceToNat, reduceCtorEq, Int.reduceEq, Int.reduceBEq, Int.reduceLE, Int.reduceLT]
      rw [wrapTo (m := ((i + 1 : Nat) : Int)) (by omega)]
      exact LeD.refl _
  · refine iq Into.refl ?_
    repeat (first | refine st_end rfl ?_ | ((first | refine st_op fun K k => ?_ | refine st_op0 fun K k => ?_ | refine st_opT fun K k => ?_ | refine st_grd rfl fun A B C k k' k2 => ?_ | refine st_cond fun A B k k' => ?_); simp only [go_sem, reduceIte, Nat.reduceEqDiff, Nat.reduceAdd, Nat.reduceMul, Nat.reduceSub, Nat.reduceLT, Nat.reduceLeDiff, Int.reduceToNat, reduceCtorEq, Int.reduceEq, Int.reduceBEq, Int.reduceLE, Int.reduceLT]; first | (refine k _ _ _ _ _ ?_; clear k K) | (refine k ?_; clear k k' k2 A B C) | (refine k' ?_; clear k k' k2 A B C) | (refine k2 ?_; clear k k' k2 A B C) | (refine k ?_; clear k k' A B) | (refine k' ?_; clear k k' A B)))
    refine Done.mk (.inr rfl) Into.refl ?_ [] 0 ?_ ?_ ?_ ?_
    · rfl
    · rfl
    · simp only [go_sem, reduceIte, Nat.reduceEqDiff, Nat.reduceAdd, Nat.reduceMul, Nat.reduceSub, Nat.reduceLT, Nat.reduceLeDiff, Int.reduceToNat, reduceCtorEq, Int.reduceEq, Int.reduceBEq, Int.reduceLE, Int.reduceLT]
      have := hi.2
      rw [List.drop_of_length_le (by omega)] at this
      simpa [idxFrom] using this
    · trivial
    · rfl
def names5 : List (List UInt8) := [[99, 105, 116, 121], [122, 105, 112], [99, 111, 117, 110, 116, 114, 121], [115, 105, 110, 99, 101], [120]]
theorem names5_at {j : Nat} (h : j < 5) : ([[.s [99, 105, 116, 121]], [.s [122, 105, 112]], [.s [99, 111, 117, 110, 116, 114, 121]], [.s [115, 105, 110, 99, 101]], [.s [120]]] : List (List D))[j]? = some [.s (names5.getD j [])] := by
  rcases j with _ | _ | _ | _ | _ | j <;> first | rfl | omega
def dName (L : List Int) (i : Nat) : List UInt8 := names5.getD (nextV L i 5).toNat []
def dMany (L : List Int) : Nat := (nextV L 1 4).toNat
structure DP where
  src : List (List UInt8)
  dst : List UInt8
@[go_sem] def DP.cells (d : DP) : List D := [strsD d.src, .s d.dst]
def dOf (L : List Int) : DP := ⟨(List.range (dMany L)).map fun j => dName L (2 + j), dName L 0⟩
theorem f25_ok (L : List Int) : FnOK sys 25 [ints L] [] (.agg (dOf L).cells) [] := by
  refine FnOK.intro Tryz.f25 (by kernel_rfl) rfl rfl [.cell 2 52] rfl 0 rfl (Nat.le_of_ble_eq_true rfl) rfl rfl fun E hN h0 => W.code (N := 36) [11, 32] hN ?_
  repeat (first | refine st_end rfl ?_ | ((first | refine st_op fun K k => ?_ | refine st_op0 fun K k => ?_ | refine st_opT fun K k => ?_ | refine st_grd rfl fun A B C k k' k2 => ?_ | refine st_cond fun A B k k' => ?_); simp only [go_sem, reduceIte, Nat.reduceEqDiff, Nat.reduceAdd, Nat.reduceMul, Nat.reduceSub, Nat.reduceLT, Nat.reduceLeDiff, Int.reduceToNat, reduceCtorEq, Int.reduceEq, Int.reduceBEq, Int.reduceLE, Int.reduceLT]; first | (refine k _ _ _ _ _ ?_; clear k K) | (refine k ?_; clear k k' k2 A B C) | (refine k' ?_; clear k k' k2 A B C) | (refine k2 ?_; clear k k' k2 A B C) | (refine k ?_; clear k k' A B) | (refine k' ?_; clear k k' A B)))
  refine st_op fun K k => ?_
  simp only [go_sem, reduceIte, Nat.reduceEqDiff, Nat.reduceAdd, Nat.reduceMul, Nat.reduceSub, Nat.reduceLT, Nat.reduceLeDiff, Int.reduceToNat, reduceCtorEq, Int.reduceEq, Int.reduceBEq, Int.reduceLE, Int.reduceLT]
  refine call49 1 L 0 (by simp only [go_sem, reduceIte, Nat.reduceEqDiff, Nat.reduceAdd, Nat.reduceMul, Nat.reduceSub, Nat.reduceLT, Nat.reduceLeDiff, Int.reduceToNat, reduceCtorEq, Int.reduceEq, Int.reduceBEq, Int.reduceLE, Int.reduceLT]; simp) (by omega) (by omega) ?_
  simp only [go_sem, reduceIte, Nat.reduceEqDiff, Nat.reduceAdd, Nat.reduceMul, Nat.reduceSub, Nat.reduceLT, Nat.reduceLeDiff, Int.reduceToNat, reduceCtorEq, Int.reduceEq, Int.reduceBEq, Int.reduceLE, Int.reduceLT]
  refine k _ _ _ _ _ ?_; clear k K
  obtain ⟨b1, b2⟩ := nextV_pos L 0 (n := 5) (by omega)
  obtain ⟨x, hx⟩ : ∃ x : Nat, nextV L 0 5 = x := ⟨_, (Int.toNat_of_nonneg b1).symm⟩
  have hx2 : names5.getD x [] = dName L 0 := by unfold dName; congr 1; omega
  repeat (first | refine st_end rfl ?_ | ((first | refine st_op fun K k => ?_ | refine st_op0 fun K k => ?_ | refine st_opT fun K k => ?_ | refine st_grd rfl fun A B C k k' k2 => ?_ | refine st_cond fun A B k k' => ?_); simp only [go_sem, reduceIte, Nat.reduceEqDiff, Nat.reduceAdd, Nat.reduceMul, Nat.reduceSub, Nat.reduceLT, Nat.reduceLeDiff, Int.reduceToNat, reduceCtorEq, Int.reduceEq, Int.reduceBEq, Int.reduceLE, Int.reduceLT, hx, names5_at (show x < 5 by omega), hx2]; first | (refine k _ _ _ _ _ ?_; clear k K) | (refine k ?_; clear k k' k2 A B C) | (refine k' ?_; clear k k' k2 A B C) | (refine k2 ?_; clear k k' k2 A B C) | (refine k ?_; clear k k' A B) | (refine k' ?_; clear k k' A B)))
  refine st_op fun K k => ?_
  simp only [go_sem, reduceIte, Nat.reduceEqDiff, Nat.reduceAdd, Nat.reduceMul, Nat.reduceSub, Nat.reduceLT, Nat.reduceLeDiff, Int.reduceToNat, reduceCtorEq, Int.reduceEq, Int.reduceBEq, Int.reduceLE, Int.reduceLT]
  refine call49 1 L 1 (by simp only [go_sem, reduceIte, Nat.reduceEqDiff, Nat.reduceAdd, Nat.reduceMul, Nat.reduceSub, Nat.reduceLT, Nat.reduceLeDiff, Int.reduceToNat, reduceCtorEq, Int.reduceEq, Int.reduceBEq, Int.reduceLE, Int.reduceLT]) (by omega) (by omega) ?_
  simp only [go_sem, reduceIte, Nat.reduceEqDiff, Nat.reduceAdd, Nat.reduceMul, Nat.reduceSub, Nat.reduceLT, Nat.reduceLeDiff, Int.reduceToNat, reduceCtorEq, Int.reduceEq, Int.reduceBEq, Int.reduceLE, Int.reduceLT]
  refine k _ _ _ _ _ ?_; clear k K
  obtain ⟨c1, c2⟩ := nextV_pos L 1 (n := 4) (by omega)
  have hm : nextV L 1 4 = (dMany L : Int) := (Int.toNat_of_nonneg c1).symm
  repeat (first | refine st_end rfl ?_ | ((first | refine st_op fun K k => ?_ | refine st_op0 fun K k => ?_ | refine st_opT fun K k => ?_ | refine st_grd rfl fun A B C k k' k2 => ?_ | refine st_cond fun A B k k' => ?_); simp only [go_sem, reduceIte, Nat.reduceEqDiff, Nat.reduceAdd, Nat.reduceMul, Nat.reduceSub, Nat.reduceLT, Nat.reduceLeDiff, Int.reduceToNat, reduceCtorEq, Int.reduceEq, Int.reduceBEq, Int.reduceLE, Int.reduceLT, hm]; first | (refine k _ _ _ _ _ ?_; clear k K) | (refine k ?_; clear k k' k2 A B C) | (refine k' ?_; clear k k' k2 A B C) | (refine k2 ?_; clear k k' k2 A B C) | (refine k ?_; clear k k' A B) | (refine k' ?_; clear k k' A B)))
  refine W.loopP (fun j : Nat => ⟨[(2, .ref 0 0), (3, .ref 1 0), (4, .sl [[.s [99, 105, 116, 121]], [.s [122, 105, 112]], [.s [99, 111, 117, 110, 116, 114, 121]], [.s [115, 105, 110, 99, 101]], [.s [120]]] 1), (5, .ref 2 0), (6, .v (.int .i64 (dMany L))), (7, .v (.int .i64 j))],
      [(0, .box [.v (.slice none 0 0), .s []]), (1, numBox L (min (2 + j) L.length)), (2, .box [.own 3 j, .s (dName L 0)]), (3, .row 9 1 ((List.range j).map fun i => [.s (dName L (2 + i))]))], 4, []⟩)
    (fun j => j ≤ dMany L) (fun j => dMany L - j) 0 (Nat.zero_le _)
    ((Into.nilCell 2 0 9 1 rfl rfl).trans (Into.le ?_ ?_ (Nat.le_refl _) rfl)) fun j hj => W.code (N := 36) [11, 32] hN ?_
  · simp only [go_sem, reduceIte, Nat.reduceEqDiff, Nat.reduceAdd, Nat.reduceMul, Nat.reduceSub, Nat.reduceLT, Nat.reduceLeDiff, Int.reduceToNat, reduceCtorEq, Int.reduceEq, Int.reduceBEq, Int.reduceLE, Int.reduceLT]
    exact LeD.refl _
  · simp only [go_sem, reduceIte, Nat.reduceEqDiff, Nat.reduceAdd, Nat.reduceMul, Nat.reduceSub, Nat.reduceLT, Nat.reduceLeDiff, Int.reduceToNat, reduceCtorEq, Int.reduceEq, Int.reduceBEq, Int.reduceLE, Int.reduceLT]
    exact LeO.refl _
  repeat (first | refine st_end rfl ?_ | ((first | refine st_op fun K k => ?_ | refine st_op0 fun K k => ?_ | refine st_opT fun K k => ?_ | refine st_grd rfl fun A B C k k' k2 => ?_ | refine st_cond fun A B k k' => ?_); simp only [go_sem, reduceIte, Nat.reduceEqDiff, Nat.reduceAdd, Nat.reduceMul, Nat.reduceSub, Nat.reduceLT, Nat.reduceLeDiff, Int.reduceToNat, reduceCtorEq, Int.reduceEq, Int.reduceBEq, Int.reduceLE, Int.reduceLT]; first | (refine k _ _ _ _ _ ?_; clear k K) | (refine k ?_; clear k k' k2 A B C) | (refine k' ?_; clear k k' k2 A B C) | (refine k2 ?_; clear k k' k2 A B C) | (refine k ?_; clear k k' A B) | (refine k' ?_; clear k k' A B)))
  refine st_cond fun A B a b => ?_; simp only [go_sem, reduceIte, Nat.reduceEqDiff, Nat.reduceAdd, Nat.reduceMul, Nat.reduceSub, Nat.reduceLT, Nat.reduceLeDiff, Int.reduceToNat, reduceCtorEq, Int.reduceEq, Int.reduceBEq, Int.reduceLE, Int.reduceLT]; refine ⟨fun g => a ?_, fun g => b ?_⟩ <;> clear a b A B
  · repeat (first | refine st_end rfl ?_ | ((first | refine st_op fun K k => ?_ | refine st_op0 fun K k => ?_ | refine st_opT fun K k => ?_ | refine st_grd rfl fun A B C k k' k2 => ?_ | refine st_cond fun A B k k' => ?_); simp only [go_sem, reduceIte, Nat.reduceEqDiff, Nat.reduceAdd, Nat.reduceMul, Nat.reduceSub, Nat.reduceLT, Nat.reduceLeDiff, Int.reduceToNat, reduceCtorEq, Int.reduceEq, Int.reduceBEq, Int.reduceLE, Int.reduceLT]; first | (refine k _ _ _ _ _ ?_; clear k K) | (refine k ?_; clear k k' k2 A B C) | (refine k' ?_; clear k k' k2 A B C) | (refine k2 ?_; clear k k' k2 A B C) | (refine k ?_; clear k k' A B) | (refine k' ?_; clear k k' A B)))
    refine st_op fun K k => ?_
    simp only [go_sem, reduceIte, Nat.reduceEqDiff, Nat.reduceAdd, Nat.reduceMul, Nat.reduceSub, Nat.reduceLT, Nat.reduceLeDiff, Int.reduceToNat, reduceCtorEq, Int.reduceEq, Int.reduceBEq, Int.reduceLE, Int.reduceLT]
    refine call49 1 L (2 + j) (by simp only [go_sem, reduceIte, Nat.reduceEqDiff, Nat.reduceAdd, Nat.reduceMul, Nat.reduceSub, Nat.reduceLT, Nat.reduceLeDiff, Int.reduceToNat, reduceCtorEq, Int.reduceEq, Int.reduceBEq, Int.reduceLE, Int.reduceLT]) (by omega) (by omega) ?_
    simp only [go_sem, reduceIte, Nat.reduceEqDiff, Nat.reduceAdd, Nat.reduceMul, Nat.reduceSub, Nat.reduceLT, Nat.reduceLeDiff, Int.reduceToNat, reduceCtorEq, Int.reduceEq, Int.reduceBEq, Int.reduceLE, Int.reduceLT]
    refine k _ _ _ _ _ ?_; clear k K
    obtain ⟨d1, d2⟩ := nextV_pos L (2 + j) (n := 5) (by omega)
    obtain ⟨y, hy⟩ : ∃ y : Nat, nextV L (2 + j) 5 = y := ⟨_, (Int.toNat_of_nonneg d1).symm⟩
    have hy2 : names5.getD y [] = dName L (2 + j) := by unfold dName; congr 1; omega
    have e2 : j + 1 ≤ maxLen := by unfold maxLen; omega
    have e3 : (j + 1) * 16 ≤ 140737488355328 := by omega
    have w5 : IntKind.wrap .i64 ((j : Int) + 1) = ((j + 1 : Nat) : Int) := wrapTo (by omega)
    repeat (first | refine st_end rfl ?_ | ((first | refine st_op fun K k => ?_ | refine st_op0 fun K k => ?_ | refine st_opT fun K k => ?_ | refine st_grd rfl fun A B C k k' k2 => ?_ | refine st_cond fun A B k k' => ?_); simp only [go_sem, reduceIte, Nat.reduceEqDiff, Nat.reduceAdd, Nat.reduceMul, Nat.reduceSub, Nat.reduceLT, Nat.reduceLeDiff, Int.reduceToNat, reduceCtorEq, Int.reduceEq, Int.reduceBEq, Int.reduceLE, Int.reduceLT, hy, names5_at (show y < 5 by omega), hy2, List.length_range, e2, e3, w5]; first | (refine k _ _ _ _ _ ?_; clear k K) | (refine k ?_; clear k k' k2 A B C) | (refine k' ?_; clear k k' k2 A B C) | (refine k2 ?_; clear k k' k2 A B C) | (refine k ?_; clear k k' A B) | (refine k' ?_; clear k k' A B)))
    refine ⟨j + 1, by omega, by omega, (Into.ren h0 [(0, 0), (1, 1), (2, 2), (3, 4)] 4 rfl).trans (Into.le ?_ ?_ (Nat.le_refl _) rfl)⟩
    · simp only [go_sem, reduceIte, Nat.reduceEqDiff, Nat.reduceAdd, Nat.reduceMul, Nat.reduceSub, Nat.reduceLT, Nat.reduceLeDiff, Int.reduceToNat, reduceCtorEq, Int.reduceEq, Int.reduceBEq, Int.reduceLE, Int.reduceLT, newOf]
    · simp only [go_sem, reduceIte, Nat.reduceEqDiff, Nat.reduceAdd, Nat.reduceMul, Nat.reduceSub, Nat.reduceLT, Nat.reduceLeDiff, Int.reduceToNat, reduceCtorEq, Int.reduceEq, Int.reduceBEq, Int.reduceLE, Int.reduceLT, newOf, List.range_succ, ← Nat.add_assoc]
  · obtain rfl : j = dMany L := by omega
    refine iq (Into.frz [3] ?_) ?_
    · simp only [go_sem, reduceIte, Nat.reduceEqDiff, Nat.reduceAdd, Nat.reduceMul, Nat.reduceSub, Nat.reduceLT, Nat.reduceLeDiff, Int.reduceToNat, reduceCtorEq, Int.reduceEq, Int.reduceBEq, Int.reduceLE, Int.reduceLT]
      intro e he; obtain ⟨q, _, rfl⟩ := List.mem_map.1 he; rfl
    repeat (first | refine st_end rfl ?_ | ((first | refine st_op fun K k => ?_ | refine st_op0 fun K k => ?_ | refine st_opT fun K k => ?_ | refine st_grd rfl fun A B C k k' k2 => ?_ | refine st_cond fun A B k k' => ?_); simp only [go_sem, reduceIte, Nat.reduceEqDiff, Nat.reduceAdd, Nat.reduceMul, Nat.reduceSub, Nat.reduceLT, Nat.reduceLeDiff, Int.reduceToNat, reduceCtorEq, Int.reduceEq, Int.reduceBEq, Int.reduceLE, Int.reduceLT, List.length_range]; first | (refine k _ _ _ _ _ ?_; clear k K) | (refine k ?_; clear k k' k2 A B C) | (refine k' ?_; clear k k' k2 A B C) | (refine k2 ?_; clear k k' k2 A B C) | (refine k ?_; clear k k' A B) | (refine k' ?_; clear k k' A B)))
    refine Done.mk (.inr rfl) Into.refl ?_ [] 0 ?_ ?_ ?_ ?_
    · rfl
    · rfl
    · simp only [go_sem, reduceIte, Nat.reduceEqDiff, Nat.reduceAdd, Nat.reduceMul, Nat.reduceSub, Nat.reduceLT, Nat.reduceLeDiff, Int.reduceToNat, reduceCtorEq, Int.reduceEq, Int.reduceBEq, Int.reduceLE, Int.reduceLT, dOf]
    · trivial
    · rfl
end Go.Proofs.YtjgooecohepkoaaGreatDoor
namespace Go.Proofs.YtjgooecohepkoaaGreatDoor
open Go Go.Abs
set_option linter.unusedSimpArgs false
@[go_sem] def depsD (l : List DP) : D := .sl (l.map DP.cells) 2
def allOf (l : List (List Int)) : List DP := (l.take 8).map dOf
theorem f24_ok (l : List (List Int)) : FnOK sys 24 [.sl (l.map fun x => [ints x]) 1] [] (depsD (allOf l)) [] := by
  refine FnOK.intro Tryz.f24 (by kernel_rfl) rfl rfl [.tmp 2] rfl 0 rfl (Nat.le_of_ble_eq_true rfl) rfl rfl fun E hN h0 => W.bound 0 rfl fun hb => W.code (N := 24) [21] hN ?_
  simp only [List.length_map, maxLen] at hb
  repeat (first | refine st_end rfl ?_ | ((first | refine st_op fun K k => ?_ | refine st_op0 fun K k => ?_ | refine st_opT fun K k => ?_ | refine st_grd rfl fun A B C k k' k2 => ?_ | refine st_cond fun A B k k' => ?_); simp only [go_sem, reduceIte, Nat.reduceEqDiff, Nat.reduceAdd, Nat.reduceMul, Nat.reduceSub, Nat.reduceLT, Nat.reduceLeDiff, Int.reduceToNat, reduceCtorEq, Int.reduceEq, Int.reduceBEq, Int.reduceLE, Int.reduceLT]; first | (refine k _ _ _ _ _ ?_; clear k K) | (refine k ?_; clear k k' k2 A B C) | (refine k' ?_; clear k k' k2 A B C) | (refine k2 ?_; clear k k' k2 A B C) | (refine k ?_; clear k k' A B) | (refine k' ?_; clear k k' A B)))
  refine W.loopP (fun i : Nat => ⟨[(0, .sl (l.map fun x => [ints x]) 1), (3, .own 0 i), (4, .v (.int .i64 i))], [(0, .row 52 2 ((l.take i).map fun x => (dOf x).cells))], 1, []⟩)
    (fun i => i ≤ l.length ∧ i ≤ 8) (fun i => l.length - i) 0 ⟨by omega, by omega⟩ ((Into.nilRow 3 52 2 rfl).trans (Into.le ?_ ?_ (Nat.le_refl _) rfl)) fun i hi => W.code (N := 24) [21] hN ?_
  · simp only [go_sem, reduceIte, Nat.reduceEqDiff, Nat.reduceAdd, Nat.reduceMul, Nat.reduceSub, Nat.reduceLT, Nat.reduceLeDiff, Int.reduceToNat, reduceCtorEq, Int.reduceEq, Int.reduceBEq, Int.reduceLE, Int.reduceLT]
    exact LeD.refl _
  · simp only [go_sem, reduceIte, Nat.reduceEqDiff, Nat.reduceAdd, Nat.reduceMul, Nat.reduceSub, Nat.reduceLT, Nat.reduceLeDiff, Int.reduceToNat, reduceCtorEq, Int.reduceEq, Int.reduceBEq, Int.reduceLE, Int.reduceLT]
  by_cases h1 : i < l.length
  · have g1 : (i : Int) < l.length := by omega
    by_cases h2 : i < 8
    · have g2 : (i : Int) < 8 := by omega
      obtain ⟨x, hx⟩ := getS h1
      repeat (first | refine st_end rfl ?_ | ((first | refine st_op fun K k => ?_ | refine st_op0 fun K k => ?_ | refine st_opT fun K k => ?_ | refine st_grd rfl fun A B C k k' k2 => ?_ | refine st_cond fun A B k k' => ?_); simp only [go_sem, reduceIte, Nat.reduceEqDiff, Nat.reduceAdd, Nat.reduceMul, Nat.reduceSub, Nat.reduceLT, Nat.reduceLeDiff, Int.reduceToNat, reduceCtorEq, Int.reduceEq, Int.reduceBEq, Int.reduceLE, Int.reduceLT, g1, g2, decide_true, decide_false, hx]; first | (refine k _ _ _ _ _ ?_; clear k K) | (refine k ?_; clear k k' k2 A B C) | (refine k' ?_; clear k k' k2 A B C) | (refine k2 ?_; clear k k' k2 A B C) | (refine k ?_; clear k k' A B) | (refine k' ?_; clear k k' A B)))
      refine st_op fun K k => ?_
      simp only [go_sem, reduceIte, Nat.reduceEqDiff, Nat.reduceAdd, Nat.reduceMul, Nat.reduceSub, Nat.reduceLT, Nat.reduceLeDiff, Int.reduceToNat, reduceCtorEq, Int.reduceEq, Int.reduceBEq, Int.reduceLE, Int.reduceLT]
      refine callP (f25_ok x) ?_
      refine k _ _ _ _ _ ?_; clear k K
      have e1 : (l.take i).length = i := by simp; omega
      have e2 : i + 1 ≤ maxLen := by unfold maxLen; omega
      have e3 : (i + 1) * 40 ≤ 140737488355328 := by omega
      have w5 : IntKind.wrap .i64 ((i : Int) + 1) = ((i + 1 : Nat) : Int) := wrapTo (by omega)
      repeat (first | refine st_end rfl ?_ | ((first | refine st_op fun K k => ?_ | refine st_op0 fun K k => ?_ | refine st_opT fun K k => ?_ | refine st_grd rfl fun A B C k k' k2 => ?_ | refine st_cond fun A B k k' => ?_); simp only [go_sem, reduceIte, Nat.reduceEqDiff, Nat.reduceAdd, Nat.reduceMul, Nat.reduceSub, Nat.reduceLT, Nat.reduceLeDiff, Int.reduceToNat, reduceCtorEq, Int.reduceEq, Int.reduceBEq, Int.reduceLE, Int.reduceLT, DP.cells, e1, e2, e3, w5]; first | (refine k _ _ _ _ _ ?_; clear k K) | (refine k ?_; clear k k' k2 A B C) | (refine k' ?_; clear k k' k2 A B C) | (refine k2 ?_; clear k k' k2 A B C) | (refine k ?_; clear k k' A B) | (refine k' ?_; clear k k' A B)))
      refine ⟨i + 1, by omega, by omega, (Into.ren h0 [(0, 1)] 1 rfl).trans (Into.le ?_ ?_ (Nat.le_refl _) rfl)⟩
      · simp only [go_sem, reduceIte, Nat.reduceEqDiff, Nat.reduceAdd, Nat.reduceMul, Nat.reduceSub, Nat.reduceLT, Nat.reduceLeDiff, Int.reduceToNat, reduceCtorEq, Int.reduceEq, Int.reduceBEq, Int.reduceLE, Int.reduceLT, newOf]
      · have e5 : l.take (i + 1) = l.take i ++ [x] := by rw [List.take_add_one, hx]; rfl
        simp only [go_sem, reduceIte, Nat.reduceEqDiff, Nat.reduceAdd, Nat.reduceMul, Nat.reduceSub, Nat.reduceLT, Nat.reduceLeDiff, Int.reduceToNat, reduceCtorEq, Int.reduceEq, Int.reduceBEq, Int.reduceLE, Int.reduceLT, newOf, e5]
    · have g2 : ¬ (i : Int) < 8 := by omega
      repeat (first | refine st_end rfl ?_ | ((first | refine st_op fun K k => ?_ | refine st_op0 fun K k => ?_ | refine st_opT fun K k => ?_ | refine st_grd rfl fun A B C k k' k2 => ?_ | refine st_cond fun A B k k' => ?_); simp only [go_sem, reduceIte, Nat.reduceEqDiff, Nat.reduceAdd, Nat.reduceMul, Nat.reduceSub, Nat.reduceLT, Nat.reduceLeDiff, Int.reduceToNat, reduceCtorEq, Int.reduceEq, Int.reduceBEq, Int.reduceLE, Int.reduceLT, g1, g2, decide_true, decide_false]; first | (refine k _ _ _ _ _ ?_; clear k K) | (refine k ?_; clear k k' k2 A B C) | (refine k' ?_; clear k k' k2 A B C) | (refine k2 ?_; clear k k' k2 A B C) | (refine k ?_; clear k k' A B) | (refine k' ?_; clear k k' A B)))
      have e1 : (l.take i).length = i := by simp; omega
      refine iq (Into.frz [0] ?_) ?_
      · simp only [go_sem, reduceIte, Nat.reduceEqDiff, Nat.reduceAdd, Nat.reduceMul, Nat.reduceSub, Nat.reduceLT, Nat.reduceLeDiff, Int.reduceToNat, reduceCtorEq, Int.reduceEq, Int.reduceBEq, Int.reduceLE, Int.reduceLT]
        intro e he; obtain ⟨q, _, rfl⟩ := List.mem_map.1 he; rfl
      repeat (first | refine st_end rfl ?_ | ((first | refine st_op fun K k => ?_ | refine st_op0 fun K k => ?_ | refine st_opT fun K k => ?_ | refine st_grd rfl fun A B C k k' k2 => ?_ | refine st_cond fun A B k k' => ?_); simp only [go_sem, reduceIte, Nat.reduceEqDiff, Nat.reduceAdd, Nat.reduceMul, Nat.reduceSub, Nat.reduceLT, Nat.reduceLeDiff, Int.reduceToNat, reduceCtorEq, Int.reduceEq, Int.reduceBEq, Int.reduceLE, Int.reduceLT, e1]; first | (refine k _ _ _ _ _ ?_; clear k K) | (refine k ?_; clear k k' k2 A B C) | (refine k' ?_; clear k k' k2 A B C) | (refine k2 ?_; clear k k' k2 A B C) | (refine k ?_; clear k k' A B) | (refine k' ?_; clear k k' A B)))
      refine Done.mk (.inr rfl) Into.refl ?_ [] 0 ?_ ?_ ?_ ?_
      · rfl
      · rfl
      · have e8 : i = 8 := by omega
        simp only [go_sem, reduceIte, Nat.reduceEqDiff, Nat.reduceAdd, Nat.reduceMul, Nat.reduceSub, Nat.reduceLT, Nat.reduceLeDiff, Int.reduceToNat, reduceCtorEq, Int.reduceEq, Int.reduceBEq, Int.reduceLE, Int.reduceLT, allOf, e8]
      · trivial
      · rfl
  · have g1 : ¬ (i : Int) < l.length := by omega
    repeat (first | refine st_end rfl ?_ | ((first | refine st_op fun K k => ?_ | refine st_op0 fun K k => ?_ | refine st_opT fun K k => ?_ | refine st_grd rfl fun A B C k k' k2 => ?_ | refine st_cond fun A B k k' => ?_); simp only [go_sem, reduceIte, Nat.reduceEqDiff, Nat.reduceAdd, Nat.reduceMul, Nat.reduceSub, Nat.reduceLT, Nat.reduceLeDiff, Int.reduceToNat, reduceCtorEq, Int.reduceEq, Int.reduceBEq, Int.reduceLE, Int.reduceLT, g1, decide_true, decide_false]; first | (refine k _ _ _ _ _ ?_; clear k K) | (refine k ?_; clear k k' k2 A B C) | (refine k' ?_; clear k k' k2 A B C) | (refine k2 ?_; clear k k' k2 A B C) | (refine k ?_; clear k k' A B) | (refine k' ?_; clear k k' A B)))
    have e1 : (l.take i).length = i := by simp; omega
    refine iq (Into.frz [0] ?_) ?_
    · simp only [go_sem, reduceIte, Nat.reduceEqDiff, Nat.reduceAdd, Nat.reduceMul, Nat.reduceSub, Nat.reduceLT, Nat.reduceLeDiff, Int.reduceToNat, reduceCtorEq, Int.reduceEq, Int.reduceBEq, Int.reduceLE, Int.reduceLT]
      intro e he; obtain ⟨q, _, rfl⟩ := List.mem_map.1 he; rfl
    repeat (first | refine st_end rfl ?_ | ((first | refine st_op fun K k => ?_ | refine st_op0 fun K k => ?_ | refine st_opT fun K k => ?_ | refine st_grd rfl fun A B C k k' k2 => ?_ | refine st_cond fun A B k k' => ?_); simp only [go_sem, reduceIte, Nat.reduceEqDiff, Nat.reduceAdd, Nat.reduceMul, Nat.reduceSub, Nat.reduceLT, Nat.reduceLeDiff, Int.reduceToNat, reduceCtorEq, Int.reduceEq, Int.reduceBEq, Int.reduceLE, Int.reduceLT, e1]; first | (refine k _ _ _ _ _ ?_; clear k K) | (refine k ?_; clear k k' k2 A B C) | (refine k' ?_; clear k k' k2 A B C) | (refine k2 ?_; clear k k' k2 A B C) | (refine k ?_; clear k k' A B) | (refine k' ?_; clear k k' A B)))
    refine Done.mk (.inr rfl) Into.refl ?_ [] 0 ?_ ?_ ?_ ?_
    · rfl
    · rfl
    · have e8 : l.take i = l.take 8 := by rw [List.take_of_length_le (by omega), List.take_of_length_le (by omega)]
      simp only [go_sem, reduceIte, Nat.reduceEqDiff, Nat.reduceAdd, Nat.reduceMul, Nat.reduceSub, Nat.reduceLT, Nat.reduceLeDiff, Int.reduceToNat, reduceCtorEq, Int.reduceEq, Int.reduceBEq, Int.reduceLE, Int.reduceLT, allOf, e8]
    · trivial
    · rfl
theorem f29_ok (xs : List (List UInt8)) (x : List UInt8) : FnOK sys 29 [strsD xs, .s x] [] (strsD (if x ∈ xs then [x] else [])) [] := by
  refine FnOK.intro Tryz.f29 (by kernel_rfl) rfl rfl [.tmp 4] rfl 0 rfl (Nat.le_of_ble_eq_true rfl) rfl rfl fun E hN h0 => W.bound 0 rfl fun hb => W.code (N := 20) [19] hN ?_
  simp only [List.length_map, maxLen] at hb
  repeat (first | refine st_end rfl ?_ | ((first | refine st_op fun K k => ?_ | refine st_op0 fun K k => ?_ | refine st_opT fun K k => ?_ | refine st_grd rfl fun A B C k k' k2 => ?_ | refine st_cond fun A B k k' => ?_); simp only [go_sem, reduceIte, Nat.reduceEqDiff, Nat.reduceAdd, Nat.reduceMul, Nat.reduceSub, Nat.reduceLT, Nat.reduceLeDiff, Int.reduceToNat, reduceCtorEq, Int.reduceEq, Int.reduceBEq, Int.reduceLE, Int.reduceLT]; first | (refine k _ _ _ _ _ ?_; clear k K) | (refine k ?_; clear k k' k2 A B C) | (refine k' ?_; clear k k' k2 A B C) | (refine k2 ?_; clear k k' k2 A B C) | (refine k ?_; clear k k' A B) | (refine k' ?_; clear k k' A B)))
  refine W.loopP (fun i : Nat => ⟨[(0, strsD xs), (1, .s x), (5, .v (.int .i64 i))], [], 0, []⟩)
    (fun i => i ≤ xs.length ∧ x ∉ xs.take i) (fun i => xs.length - i) 0 ⟨by omega, by simp⟩ (Into.le ?_ trivial (Nat.le_refl _) rfl) fun i hi => W.code (N := 20) [19] hN ?_
  · simp only [go_sem, reduceIte, Nat.reduceEqDiff, Nat.reduceAdd, Nat.reduceMul, Nat.reduceSub, Nat.reduceLT, Nat.reduceLeDiff, Int.reduceToNat, reduceCtorEq, Int.reduceEq, Int.reduceBEq, Int.reduceLE, Int.reduceLT]
    exact LeD.refl _
  repeat (first | refine st_end rfl ?_ | ((first | refine st_op fun K k => ?_ | refine st_op0 fun K k => ?_ | refine st_opT fun K k => ?_ | refine st_grd rfl fun A B C k k' k2 => ?_ | refine st_cond fun A B k k' => ?_); simp only [go_sem, reduceIte, Nat.reduceEqDiff, Nat.reduceAdd, Nat.reduceMul, Nat.reduceSub, Nat.reduceLT, Nat.reduceLeDiff, Int.reduceToNat, reduceCtorEq, Int.reduceEq, Int.reduceBEq, Int.reduceLE, Int.reduceLT]; first | (refine k _ _ _ _ _ ?_; clear k K) | (refine k ?_; clear k k' k2 A B C) | (refine k' ?_; clear k k' k2 A B C) | (refine k2 ?_; clear k k' k2 A B C) | (refine k ?_; clear k k' A B) | (refine k' ?_; clear k k' A B)))
  refine st_cond fun A B a b => ?_; simp only [go_sem, reduceIte, Nat.reduceEqDiff, Nat.reduceAdd, Nat.reduceMul, Nat.reduceSub, Nat.reduceLT, Nat.reduceLeDiff, Int.reduceToNat, reduceCtorEq, Int.reduceEq, Int.reduceBEq, Int.reduceLE, Int.reduceLT]; refine ⟨fun g => a ?_, fun g => b ?_⟩ <;> clear a b A B
  · obtain ⟨y, hy⟩ := getS (l := xs) (i := i) (by omega)
    repeat (first | refine st_end rfl ?_ | ((first | refine st_op fun K k => ?_ | refine st_op0 fun K k => ?_ | refine st_opT fun K k => ?_ | refine st_grd rfl fun A B C k k' k2 => ?_ | refine st_cond fun A B k k' => ?_); simp only [go_sem, reduceIte, Nat.reduceEqDiff, Nat.reduceAdd, Nat.reduceMul, Nat.reduceSub, Nat.reduceLT, Nat.reduceLeDiff, Int.reduceToNat, reduceCtorEq, Int.reduceEq, Int.reduceBEq, Int.reduceLE, Int.reduceLT, hy]; first | (refine k _ _ _ _ _ ?_; clear k K) | (refine k ?_; clear k k' k2 A B C) | (refine k' ?_; clear k k' k2 A B C) | (refine k2 ?_; clear k k' k2 A B C) | (refine k ?_; clear k k' A B) | (refine k' ?_; clear k k' A B)))
    refine st_cond fun A B a b => ?_; simp only [go_sem, reduceIte, Nat.reduceEqDiff, Nat.reduceAdd, Nat.reduceMul, Nat.reduceSub, Nat.reduceLT, Nat.reduceLeDiff, Int.reduceToNat, reduceCtorEq, Int.reduceEq, Int.reduceBEq, Int.reduceLE, Int.reduceLT]; refine ⟨fun g => a ?_, fun g => b ?_⟩ <;> clear a b A B
    · repeat (first | refine st_end rfl ?_ | ((first | refine st_op fun K k => ?_ | refine st_op0 fun K k => ?_ | refine st_opT fun K k => ?_ | refine st_grd rfl fun A B C k k' k2 => ?_ | refine st_cond fun A B k k' => ?_); simp only [go_sem, reduceIte, Nat.reduceEqDiff, Nat.reduceAdd, Nat.reduceMul, Nat.reduceSub, Nat.reduceLT, Nat.reduceLeDiff, Int.reduceToNat, reduceCtorEq, Int.reduceEq, Int.reduceBEq, Int.reduceLE, Int.reduceLT]; first | (refine k _ _ _ _ _ ?_; clear k K) | (refine k ?_; clear k k' k2 A B C) | (refine k' ?_; clear k k' k2 A B C) | (refine k2 ?_; clear k k' k2 A B C) | (refine k ?_; clear k k' A B) | (refine k' ?_; clear k k' A B)))
      refine iq Into.refl (Done.mk (.inr rfl) Into.refl rfl [] 0 rfl ?_ trivial rfl)
      have e : y = x := by simpa using g
      have e2 : x ∈ xs := by rw [← e]; exact List.mem_of_getElem? hy
      simp only [go_sem, reduceIte, Nat.reduceEqDiff, Nat.reduceAdd, Nat.reduceMul, Nat.reduceSub, Nat.reduceLT, Nat.reduceLeDiff, Int.reduceToNat, reduceCtorEq, Int.reduceEq, Int.reduceBEq, Int.reduceLE, Int.reduceLT, e2]
    · repeat (first | refine st_end rfl ?_ | ((first | refine st_op fun K k => ?_ | refine st_op0 fun K k => ?_ | refine st_opT fun K k => ?_ | refine st_grd rfl fun A B C k k' k2 => ?_ | refine st_cond fun A B k k' => ?_); simp only [go_sem, reduceIte, Nat.reduceEqDiff, Nat.reduceAdd, Nat.reduceMul, Nat.reduceSub, Nat.reduceLT, Nat.reduceLeDiff, Int.reduceToNat, reduceCtorEq, Int.reduceEq, Int.reduceBEq, Int.reduceLE, Int.reduceLT]; first | (refine k _ _ _ _ _ ?_; clear k K) | (refine k ?_; clear k k' k2 A B C) | (refine k' ?_; clear k k' k2 A B C) | (refine k2 ?_; clear k k' k2 A B C) | (refine k ?_; clear k k' A B) | (refine k' ?_; clear k k' A B)))
      have e : ¬ y = x := by simpa using g
      refine ⟨i + 1, ⟨by omega, ?_⟩, by omega, Into.le ?_ trivial (Nat.le_refl _) rfl⟩
      · rw [List.take_add_one, hy]
        intro hm
        rcases List.mem_append.1 hm with hm | hm
        · exact hi.2 hm
        · simp at hm; exact e hm.symm
      simp only [go_sem, reduceIte, Nat.reduceEqDiff, Nat.reduceAdd, Nat.reduceMul, Nat.reduceSub, Nat.reduceLT, Nat.reduceLeDiff, Int.reduceToNat, reduceCtorEq, Int.reduceEq, Int.reduceBEq, Int.reduceLE, Int.reduceLT]
      rw [wrapTo (m := ((i + 1 : Nat) : Int)) (by omega)]
      exact LeD.refl _
  · refine iq Into.refl ?_
    repeat (first | refine st_end rfl ?_ | ((first | refine st_op fun K k => ?_ | refine st_op0 fun K k => ?_ | refine st_opT fun K k => ?_ | refine st_grd rfl fun A B C k k' k2 => ?_ | refine st_cond fun A B k k' => ?_); simp only [go_sem, reduceIte, Nat.reduceEqDiff, Nat.reduceAdd, Nat.reduceMul, Nat.reduceSub, Nat.reduceLT, Nat.reduceLeDiff, Int.reduceToNat, reduceCtorEq, Int.reduceEq, Int.reduceBEq, Int.reduceLE, Int.reduceLT]; first | (refine k _ _ _ _ _ ?_; clear k K) | (refine k ?_; clear k k' k2 A B C) | (refine k' ?_; clear k k' k2 A B C) | (refine k2 ?_; clear k k' k2 A B C) | (refine k ?_; clear k k' A B) | (refine k' ?_; clear k k' A B)))
    have e2 : x ∉ xs := by
      have := hi.2
      rwa [List.take_of_length_le (by omega)] at this
    refine Done.mk (.inr rfl) (st' := ⟨[(4, .sl [] 1)], [], 0, []⟩) (Into.le ?_ trivial (Nat.le_refl _) rfl) ?_ [] 0 ?_ ?_ ?_ ?_
    · simp only [go_sem, reduceIte, Nat.reduceEqDiff, Nat.reduceAdd, Nat.reduceMul, Nat.reduceSub, Nat.reduceLT, Nat.reduceLeDiff, Int.reduceToNat, reduceCtorEq, Int.reduceEq, Int.reduceBEq, Int.reduceLE, Int.reduceLT]
      exact LeD.nil _
    · rfl
    · rfl
    · simp only [go_sem, reduceIte, Nat.reduceEqDiff, Nat.reduceAdd, Nat.reduceMul, Nat.reduceSub, Nat.reduceLT, Nat.reduceLeDiff, Int.reduceToNat, reduceCtorEq, Int.reduceEq, Int.reduceBEq, Int.reduceLE, Int.reduceLT, e2]
    · trivial
    · rfl
end Go.Proofs.YtjgooecohepkoaaGreatDoor
