/- Contracts of the functions that the statement reaches. -/
import Derived.Test.YtjgooecohepkoaaGreatDoorSAH
set_option linter.unusedVariables false
set_option linter.unusedSimpArgs false
namespace Go.Proofs.YtjgooecohepkoaaGreatDoor
open Go Go.Abs
set_option linter.unusedSimpArgs false
/-- How many texts at the head come before x. -/
def headN (l : List (List UInt8)) (x : List UInt8) : Nat := (l.takeWhile fun y => Op.bytesLess y x).length
def insR (l : List (List UInt8)) (x : List UInt8) : List (List UInt8) := if l[headN l x]? = some x then l else l.take (headN l x) ++ x :: l.drop (headN l x)
theorem headN_eq {l : List (List UInt8)} {x : List UInt8} {j : Nat} (hj : j ≤ l.length) (h1 : ∀ s ∈ l.take j, Op.bytesLess s x = true) (h2 : ∀ y, l[j]? = some y → Op.bytesLess y x = false) : headN l x = j := by
  unfold headN
  induction l generalizing j with
  | nil => simp at hj; simp [hj]
  | cons y r ih =>
    cases j with
    | zero =>
      have := h2 y rfl
      simp [List.takeWhile_cons, this]
    | succ j =>
      have hy : Op.bytesLess y x = true := h1 y (by simp)
      simp only [List.takeWhile_cons, hy, if_true, List.length_cons]
      rw [ih (j := j) (by simpa using hj) (fun s hs => h1 s (by simp [hs])) (fun z hz => h2 z (by simpa using hz))]
theorem f80_ok (l : List (List UInt8)) (x : List UInt8) (hl : l.length ≤ 16777216) : FnOK sys 80 [strsD l, .s x] [] (strsD (insR l x)) [] := by
  refine FnOK.intro Tryz.f80 (by kernel_rfl) rfl rfl [.tmp 4] rfl 0 rfl (Nat.le_of_ble_eq_true rfl) rfl rfl fun E hN h0 => W.code (N := 47) [] hN ?_
  repeat (first | refine st_end rfl ?_ | ((first | refine st_op fun K k => ?_ | refine st_op0 fun K k => ?_ | refine st_opT fun K k => ?_ | refine st_grd rfl fun A B C k k' k2 => ?_ | refine st_cond fun A B k k' => ?_); simp only [go_sem, reduceIte, Nat.reduceEqDiff, Nat.reduceAdd, Nat.reduceMul, Nat.reduceSub, Nat.reduceLT, Nat.reduceLeDiff, Int.reduceToNat, reduceCtorEq, Int.reduceEq, Int.reduceBEq, Int.reduceLE, Int.reduceLT]; first | (refine k _ _ _ _ _ ?_; clear k K) | (refine k ?_; clear k k' k2 A B C) | (refine k' ?_; clear k k' k2 A B C) | (refine k2 ?_; clear k k' k2 A B C) | (refine k ?_; clear k k' A B) | (refine k' ?_; clear k k' A B)))
  refine W.loopP (fun j : Nat => ⟨[(0, strsD l), (1, .s x), (5, .v (.int .i64 j))], [], 0, []⟩) (fun j => j ≤ l.length ∧ ∀ s ∈ l.take j, Op.bytesLess s x = true) (fun j => l.length - j) 0 ⟨by omega, by simp⟩
    (Into.le ?_ ?_ (Nat.le_refl _) rfl) fun j hj => W.code (N := 47) [] hN ?_
  · simp only [go_sem, reduceIte, Nat.reduceEqDiff, Nat.reduceAdd, Nat.reduceMul, Nat.reduceSub, Nat.reduceLT, Nat.reduceLeDiff, Int.reduceToNat, reduceCtorEq, Int.reduceEq, Int.reduceBEq, Int.reduceLE, Int.reduceLT]
    exact LeD.refl _
  · trivial
  by_cases hlt : (j : Int) < l.length
  · obtain ⟨y, hy⟩ := getS (l := l) (i := j) (by omega)
    cases hless : Op.bytesLess y x with
    | true =>
      have w5 : IntKind.wrap .i64 ((j : Int) + 1) = ((j + 1 : Nat) : Int) := wrapTo (by omega)
      repeat (first | refine st_end rfl ?_ | ((first | refine st_op fun K k => ?_ | refine st_op0 fun K k => ?_ | refine st_opT fun K k => ?_ | refine st_grd rfl fun A B C k k' k2 => ?_ | refine st_cond fun A B k k' => ?_); simp only [go_sem, reduceIte, Nat.reduceEqDiff, Nat.reduceAdd, Nat.reduceMul, Nat.reduceSub, Nat.reduceLT, Nat.reduceLeDiff, Int.reduceToNat, reduceCtorEq, Int.reduceEq, Int.reduceBEq, Int.reduceLE, Int.reduceLT, hlt, decide_true, hy, hless, w5]; first | (refine k _ _ _ _ _ ?_; clear k K) | (refine k ?_; clear k k' k2 A B C) | (refine k' ?_; clear k k' k2 A B C) | (refine k2 ?_; clear k k' k2 A B C) | (refine k ?_; clear k k' A B) | (refine k' ?_; clear k k' A B)))
      refine ⟨j + 1, ⟨by omega, ?_⟩, by omega, Into.le ?_ ?_ (Nat.le_refl _) rfl⟩
      · intro s hs
        have e5 : l.take (j + 1) = l.take j ++ [y] := by rw [List.take_add_one, hy]; rfl
        rw [e5] at hs
        rcases List.mem_append.1 hs with hs | hs
        · exact hj.2 s hs
        · simp at hs; rw [hs]; exact hless
      · simp only [go_sem, reduceIte, Nat.reduceEqDiff, Nat.reduceAdd, Nat.reduceMul, Nat.reduceSub, Nat.reduceLT, Nat.reduceLeDiff, Int.reduceToNat, reduceCtorEq, Int.reduceEq, Int.reduceBEq, Int.reduceLE, Int.reduceLT]
      · trivial
    | false =>
      have hn : headN l x = j := headN_eq hj.1 hj.2 (fun z hz => by rw [hy] at hz; cases hz; exact hless)
      repeat (first | refine st_end rfl ?_ | ((first | refine st_op fun K k => ?_ | refine st_op0 fun K k => ?_ | refine st_opT fun K k => ?_ | refine st_grd rfl fun A B C k k' k2 => ?_ | refine st_cond fun A B k k' => ?_); simp only [go_sem, reduceIte, Nat.reduceEqDiff, Nat.reduceAdd, Nat.reduceMul, Nat.reduceSub, Nat.reduceLT, Nat.reduceLeDiff, Int.reduceToNat, reduceCtorEq, Int.reduceEq, Int.reduceBEq, Int.reduceLE, Int.reduceLT, hlt, decide_true, hy, hless]; first | (refine k _ _ _ _ _ ?_; clear k K) | (refine k ?_; clear k k' k2 A B C) | (refine k' ?_; clear k k' k2 A B C) | (refine k2 ?_; clear k k' k2 A B C) | (refine k ?_; clear k k' A B) | (refine k' ?_; clear k k' A B)))
      refine iq Into.refl ?_
      by_cases hxy : y = x
      · have hb : (y == x) = true := by simp [hxy]
        repeat (first | refine st_end rfl ?_ | ((first | refine st_op fun K k => ?_ | refine st_op0 fun K k => ?_ | refine st_opT fun K k => ?_ | refine st_grd rfl fun A B C k k' k2 => ?_ | refine st_cond fun A B k k' => ?_); simp only [go_sem, reduceIte, Nat.reduceEqDiff, Nat.reduceAdd, Nat.reduceMul, Nat.reduceSub, Nat.reduceLT, Nat.reduceLeDiff, Int.reduceToNat, reduceCtorEq, Int.reduceEq, Int.reduceBEq, Int.reduceLE, Int.reduceLT, hlt, decide_true, hy, hb]; first | (refine k _ _ _ _ _ ?_; clear k K) | (refine k ?_; clear k k' k2 A B C) | (refine k' ?_; clear k k' k2 A B C) | (refine k2 ?_; clear k k' k2 A B C) | (refine k ?_; clear k k' A B) | (refine k' ?_; clear k k' A B)))
        refine Done.mk (.inr rfl) Into.refl ?_ [] 0 ?_ ?_ ?_ ?_
        · rfl
        · rfl
        · simp only [go_sem, reduceIte, Nat.reduceEqDiff, Nat.reduceAdd, Nat.reduceMul, Nat.reduceSub, Nat.reduceLT, Nat.reduceLeDiff, Int.reduceToNat, reduceCtorEq, Int.reduceEq, Int.reduceBEq, Int.reduceLE, Int.reduceLT, insR, hn, hy, hxy]
        · trivial
        · rfl
      · have hb : (y == x) = false := by simp [hxy]
        have hd : (l.drop j).length = l.length - j := by simp
        have ht : (l.take j).length = j := by simp; omega
        have b1 : (0 : Int) ≤ (j : Int) := by omega
        have b2 : (j : Int) ≤ (l.length : Int) := by omega
        have b3 : 1 + (l.length - j) ≤ maxLen := by unfold maxLen; omega
        have b4 : (1 + (l.length - j)) * 16 ≤ 140737488355328 := by omega
        have b5 : j ≤ maxLen := by unfold maxLen; omega
        have b6 : j * 16 ≤ 140737488355328 := by omega
        have b7 : j + (1 + (l.length - j)) ≤ maxLen := by unfold maxLen; omega
        have b8 : (j + (1 + (l.length - j))) * 16 ≤ 140737488355328 := by omega
        have b0 : (l.length : Int) ≤ (l.length : Int) := Int.le_refl _
        have e1 : (l.map fun s => [D.s s]).take l.length = l.map fun s => [D.s s] := List.take_of_length_le (by simp)
        have e2 : (l.length : Int).toNat = l.length := by omega
        have e3 : ∀ e ∈ List.drop j (l.map fun s => [D.s s]), e.all oneD = true := by
          intro e he; obtain ⟨q, _, rfl⟩ := List.mem_map.1 (List.mem_of_mem_drop he); rfl
        have e4 : ∀ e ∈ List.take j (l.map fun s => [D.s s]), e.all oneD = true := by
          intro e he; obtain ⟨q, _, rfl⟩ := List.mem_map.1 (List.mem_of_mem_take he); rfl
        have e5 : (List.drop j (l.map fun s => [D.s s])).length = l.length - j := by simp
        have e6 : (List.take j (l.map fun s => [D.s s])).length = j := by simp; omega
        repeat (first | refine st_end rfl ?_ | ((first | refine st_op fun K k => ?_ | refine st_op0 fun K k => ?_ | refine st_opT fun K k => ?_ | refine st_grd rfl fun A B C k k' k2 => ?_ | refine st_cond fun A B k k' => ?_); simp only [go_sem, reduceIte, Nat.reduceEqDiff, Nat.reduceAdd, Nat.reduceMul, Nat.reduceSub, Nat.reduceLT, Nat.reduceLeDiff, Int.reduceToNat, reduceCtorEq, Int.reduceEq, Int.reduceBEq, Int.reduceLE, Int.reduceLT, hlt, decide_true, hy, hb, b0, b1, b2, e1, e2]; first | (refine k _ _ _ _ _ ?_; clear k K) | (refine k ?_; clear k k' k2 A B C) | (refine k' ?_; clear k k' k2 A B C) | (refine k2 ?_; clear k k' k2 A B C) | (refine k ?_; clear k k' A B) | (refine k' ?_; clear k k' A B)))
        refine st_op fun K k' => ?_
        simp only [go_sem, reduceIte, Nat.reduceEqDiff, Nat.reduceAdd, Nat.reduceMul, Nat.reduceSub, Nat.reduceLT, Nat.reduceLeDiff, Int.reduceToNat, reduceCtorEq, Int.reduceEq, Int.reduceBEq, Int.reduceLE, Int.reduceLT, e5, b3, b4]
        refine ⟨e3, k' _ _ _ _ _ ?_⟩; clear k' K
        repeat (first | refine st_end rfl ?_ | ((first | refine st_op fun K k => ?_ | refine st_op0 fun K k => ?_ | refine st_opT fun K k => ?_ | refine st_grd rfl fun A B C k k' k2 => ?_ | refine st_cond fun A B k k' => ?_); simp only [go_sem, reduceIte, Nat.reduceEqDiff, Nat.reduceAdd, Nat.reduceMul, Nat.reduceSub, Nat.reduceLT, Nat.reduceLeDiff, Int.reduceToNat, reduceCtorEq, Int.reduceEq, Int.reduceBEq, Int.reduceLE, Int.reduceLT, b1, b2, ht, b0]; first | (refine k _ _ _ _ _ ?_; clear k K) | (refine k ?_; clear k k' k2 A B C) | (refine k' ?_; clear k k' k2 A B C) | (refine k2 ?_; clear k k' k2 A B C) | (refine k ?_; clear k k' A B) | (refine k' ?_; clear k k' A B)))
        refine st_op fun K k' => ?_
        simp only [go_sem, reduceIte, Nat.reduceEqDiff, Nat.reduceAdd, Nat.reduceMul, Nat.reduceSub, Nat.reduceLT, Nat.reduceLeDiff, Int.reduceToNat, reduceCtorEq, Int.reduceEq, Int.reduceBEq, Int.reduceLE, Int.reduceLT, e6, b5, b6]
        refine ⟨e4, k' _ _ _ _ _ ?_⟩; clear k' K
        repeat (first | refine st_end rfl ?_ | ((first | refine st_op fun K k => ?_ | refine st_op0 fun K k => ?_ | refine st_opT fun K k => ?_ | refine st_grd rfl fun A B C k k' k2 => ?_ | refine st_cond fun A B k k' => ?_); simp only [go_sem, reduceIte, Nat.reduceEqDiff, Nat.reduceAdd, Nat.reduceMul, Nat.reduceSub, Nat.reduceLT, Nat.reduceLeDiff, Int.reduceToNat, reduceCtorEq, Int.reduceEq, Int.reduceBEq, Int.reduceLE, Int.reduceLT]; first | (refine k _ _ _ _ _ ?_; clear k K) | (refine k ?_; clear k k' k2 A B C) | (refine k' ?_; clear k k' k2 A B C) | (refine k2 ?_; clear k k' k2 A B C) | (refine k ?_; clear k k' A B) | (refine k' ?_; clear k k' A B)))
        refine st_op fun K k' => ?_
        simp only [go_sem, reduceIte, Nat.reduceEqDiff, Nat.reduceAdd, Nat.reduceMul, Nat.reduceSub, Nat.reduceLT, Nat.reduceLeDiff, Int.reduceToNat, reduceCtorEq, Int.reduceEq, Int.reduceBEq, Int.reduceLE, Int.reduceLT, vAppendO, e5, e6, b7, b8]
        refine ⟨by omega, e3, ⟨by unfold maxLen; omega, by omega⟩, k' _ _ _ _ _ ?_⟩; clear k' K
        repeat (first | refine st_end rfl ?_ | ((first | refine st_op fun K k => ?_ | refine st_op0 fun K k => ?_ | refine st_opT fun K k => ?_ | refine st_grd rfl fun A B C k k' k2 => ?_ | refine st_cond fun A B k k' => ?_); simp only [go_sem, reduceIte, Nat.reduceEqDiff, Nat.reduceAdd, Nat.reduceMul, Nat.reduceSub, Nat.reduceLT, Nat.reduceLeDiff, Int.reduceToNat, reduceCtorEq, Int.reduceEq, Int.reduceBEq, Int.reduceLE, Int.reduceLT]; first | (refine k _ _ _ _ _ ?_; clear k K) | (refine k ?_; clear k k' k2 A B C) | (refine k' ?_; clear k k' k2 A B C) | (refine k2 ?_; clear k k' k2 A B C) | (refine k ?_; clear k k' A B) | (refine k' ?_; clear k k' A B)))
        refine Done.mk (.inr rfl) (Into.frz [4] ?_) ?_ [] 0 ?_ ?_ ?_ ?_
        · simp only [go_sem, reduceIte, Nat.reduceEqDiff, Nat.reduceAdd, Nat.reduceMul, Nat.reduceSub, Nat.reduceLT, Nat.reduceLeDiff, Int.reduceToNat, reduceCtorEq, Int.reduceEq, Int.reduceBEq, Int.reduceLE, Int.reduceLT]
          intro e he
          rcases List.mem_append.1 he with he | he
          · obtain ⟨q, _, rfl⟩ := List.mem_map.1 (List.mem_of_mem_take he); rfl
          · rcases List.mem_cons.1 he with rfl | he
            · rfl
            · obtain ⟨q, _, rfl⟩ := List.mem_map.1 (List.mem_of_mem_drop he); rfl
        · rfl
        · rfl
        · simp only [go_sem, reduceIte, Nat.reduceEqDiff, Nat.reduceAdd, Nat.reduceMul, Nat.reduceSub, Nat.reduceLT, Nat.reduceLeDiff, Int.reduceToNat, reduceCtorEq, Int.reduceEq, Int.reduceBEq, Int.reduceLE, Int.reduceLT, insR, hn, hy, hxy, Option.some.injEq, if_false, e5, e6, List.length_append, List.length_cons, List.length_drop, List.length_take, List.length_map, List.map_append, List.map_cons, List.map_take, List.map_drop, decide_true]
        · trivial
        · rfl
  · have hjl : j = l.length := by omega
    have hy : l[j]? = none := List.getElem?_eq_none (by omega)
    have hn : headN l x = j := headN_eq hj.1 hj.2 (fun z hz => by rw [hy] at hz; cases hz)
    repeat (first | refine st_end rfl ?_ | ((first | refine st_op fun K k => ?_ | refine st_op0 fun K k => ?_ | refine st_opT fun K k => ?_ | refine st_grd rfl fun A B C k k' k2 => ?_ | refine st_cond fun A B k k' => ?_); simp only [go_sem, reduceIte, Nat.reduceEqDiff, Nat.reduceAdd, Nat.reduceMul, Nat.reduceSub, Nat.reduceLT, Nat.reduceLeDiff, Int.reduceToNat, reduceCtorEq, Int.reduceEq, Int.reduceBEq, Int.reduceLE, Int.reduceLT, hlt, decide_false]; first | (refine k _ _ _ _ _ ?_; clear k K) | (refine k ?_; clear k k' k2 A B C) | (refine k' ?_; clear k k' k2 A B C) | (refine k2 ?_; clear k k' k2 A B C) | (refine k ?_; clear k k' A B) | (refine k' ?_; clear k k' A B)))
    refine iq Into.refl ?_
    have hd : (l.drop j).length = l.length - j := by simp
    have ht : (l.take j).length = j := by simp; omega
    have b1 : (0 : Int) ≤ (j : Int) := by omega
    have b2 : (j : Int) ≤ (l.length : Int) := by omega
    have b3 : 1 + (l.length - j) ≤ maxLen := by unfold maxLen; omega
    have b4 : (1 + (l.length - j)) * 16 ≤ 140737488355328 := by omega
    have b5 : j ≤ maxLen := by unfold maxLen; omega
    have b6 : j * 16 ≤ 140737488355328 := by omega
    have b7 : j + (1 + (l.length - j)) ≤ maxLen := by unfold maxLen; omega
    have b8 : (j + (1 + (l.length - j))) * 16 ≤ 140737488355328 := by omega
    have b0 : (l.length : Int) ≤ (l.length : Int) := Int.le_refl _
    have e1 : (l.map fun s => [D.s s]).take l.length = l.map fun s => [D.s s] := List.take_of_length_le (by simp)
    have e2 : (l.length : Int).toNat = l.length := by omega
    have e3 : ∀ e ∈ List.drop j (l.map fun s => [D.s s]), e.all oneD = true := by
      intro e he; obtain ⟨q, _, rfl⟩ := List.mem_map.1 (List.mem_of_mem_drop he); rfl
    have e4 : ∀ e ∈ List.take j (l.map fun s => [D.s s]), e.all oneD = true := by
      intro e he; obtain ⟨q, _, rfl⟩ := List.mem_map.1 (List.mem_of_mem_take he); rfl
    have e5 : (List.drop j (l.map fun s => [D.s s])).length = l.length - j := by simp
    have e6 : (List.take j (l.map fun s => [D.s s])).length = j := by simp; omega
    repeat (first | refine st_end rfl ?_ | ((first | refine st_op fun K k => ?_ | refine st_op0 fun K k => ?_ | refine st_opT fun K k => ?_ | refine st_grd rfl fun A B C k k' k2 => ?_ | refine st_cond fun A B k k' => ?_); simp only [go_sem, reduceIte, Nat.reduceEqDiff, Nat.reduceAdd, Nat.reduceMul, Nat.reduceSub, Nat.reduceLT, Nat.reduceLeDiff, Int.reduceToNat, reduceCtorEq, Int.reduceEq, Int.reduceBEq, Int.reduceLE, Int.reduceLT, hlt, decide_false, b0, b1, b2, e1, e2]; first | (refine k _ _ _ _ _ ?_; clear k K) | (refine k ?_; clear k k' k2 A B C) | (refine k' ?_; clear k k' k2 A B C) | (refine k2 ?_; clear k k' k2 A B C) | (refine k ?_; clear k k' A B) | (refine k' ?_; clear k k' A B)))
    refine st_op fun K k' => ?_
    simp only [go_sem, reduceIte, Nat.reduceEqDiff, Nat.reduceAdd, Nat.reduceMul, Nat.reduceSub, Nat.reduceLT, Nat.reduceLeDiff, Int.reduceToNat, reduceCtorEq, Int.reduceEq, Int.reduceBEq, Int.reduceLE, Int.reduceLT, e5, b3, b4]
    refine ⟨e3, k' _ _ _ _ _ ?_⟩; clear k' K
    repeat (first | refine st_end rfl ?_ | ((first | refine st_op fun K k => ?_ | refine st_op0 fun K k => ?_ | refine st_opT fun K k => ?_ | refine st_grd rfl fun A B C k k' k2 => ?_ | refine st_cond fun A B k k' => ?_); simp only [go_sem, reduceIte, Nat.reduceEqDiff, Nat.reduceAdd, Nat.reduceMul, Nat.reduceSub, Nat.reduceLT, Nat.reduceLeDiff, Int.reduceToNat, reduceCtorEq, Int.reduceEq, Int.reduceBEq, Int.reduceLE, Int.reduceLT, b1, b2, ht, b0]; first | (refine k _ _ _ _ _ ?_; clear k K) | (refine k ?_; clear k k' k2 A B C) | (refine k' ?_; clear k k' k2 A B C) | (refine k2 ?_; clear k k' k2 A B C) | (refine k ?_; clear k k' A B) | (refine k' ?_; clear k k' A B)))
    refine st_op fun K k' => ?_
    simp only [go_sem, reduceIte, Nat.reduceEqDiff, Nat.reduceAdd, Nat.reduceMul, Nat.reduceSub, Nat.reduceLT, Nat.reduceLeDiff, Int.reduceToNat, reduceCtorEq, Int.reduceEq, Int.reduceBEq, Int.reduceLE, Int.reduceLT, e6, b5, b6]
    refine ⟨e4, k' _ _ _ _ _ ?_⟩; clear k' K
    repeat (first | refine st_end rfl ?_ | ((first | refine st_op fun K k => ?_ | refine st_op0 fun K k => ?_ | refine st_opT fun K k => ?_ | refine st_grd rfl fun A B C k k' k2 => ?_ | refine st_cond fun A B k k' => ?_); simp only [go_sem, reduceIte, Nat.reduceEqDiff, Nat.reduceAdd, Nat.reduceMul, Nat.reduceSub, Nat.reduceLT, Nat.reduceLeDiff, Int.reduceToNat, reduceCtorEq, Int.reduceEq, Int.reduceBEq, Int.reduceLE, Int.reduceLT]; first | (refine k _ _ _ _ _ ?_; clear k K) | (refine k ?_; clear k k' k2 A B C) | (refine k' ?_; clear k k' k2 A B C) | (refine k2 ?_; clear k k' k2 A B C) | (refine k ?_; clear k k' A B) | (refine k' ?_; clear k k' A B)))
    refine st_op fun K k' => ?_
    simp only [go_sem, reduceIte, Nat.reduceEqDiff, Nat.reduceAdd, Nat.reduceMul, Nat.reduceSub, Nat.reduceLT, Nat.reduceLeDiff, Int.reduceToNat, reduceCtorEq, Int.reduceEq, Int.reduceBEq, Int.reduceLE, Int.reduceLT, vAppendO, e5, e6, b7, b8]
    refine ⟨by omega, e3, ⟨by unfold maxLen; omega, by omega⟩, k' _ _ _ _ _ ?_⟩; clear k' K
    repeat (first | refine st_end rfl ?_ | ((first | refine st_op fun K k => ?_ | refine st_op0 fun K k => ?_ | refine st_opT fun K k => ?_ | refine st_grd rfl fun A B C k k' k2 => ?_ | refine st_cond fun A B k k' => ?_); simp only [go_sem, reduceIte, Nat.reduceEqDiff, Nat.reduceAdd, Nat.reduceMul, Nat.reduceSub, Nat.reduceLT, Nat.reduceLeDiff, Int.reduceToNat, reduceCtorEq, Int.reduceEq, Int.reduceBEq, Int.reduceLE, Int.reduceLT]; first | (refine k _ _ _ _ _ ?_; clear k K) | (refine k ?_; clear k k' k2 A B C) | (refine k' ?_; clear k k' k2 A B C) | (refine k2 ?_; clear k k' k2 A B C) | (refine k ?_; clear k k' A B) | (refine k' ?_; clear k k' A B)))
    refine Done.mk (.inr rfl) (Into.frz [4] ?_) ?_ [] 0 ?_ ?_ ?_ ?_
    · simp only [go_sem, reduceIte, Nat.reduceEqDiff, Nat.reduceAdd, Nat.reduceMul, Nat.reduceSub, Nat.reduceLT, Nat.reduceLeDiff, Int.reduceToNat, reduceCtorEq, Int.reduceEq, Int.reduceBEq, Int.reduceLE, Int.reduceLT]
      intro e he
      rcases List.mem_append.1 he with he | he
      · obtain ⟨q, _, rfl⟩ := List.mem_map.1 (List.mem_of_mem_take he); rfl
      · rcases List.mem_cons.1 he with rfl | he
        · rfl
        · obtain ⟨q, _, rfl⟩ := List.mem_map.1 (List.mem_of_mem_drop he); rfl
    · rfl
    · rfl
    · simp only [go_sem, reduceIte, Nat.reduceEqDiff, Nat.reduceAdd, Nat.reduceMul, Nat.reduceSub, Nat.reduceLT, Nat.reduceLeDiff, Int.reduceToNat, reduceCtorEq, Int.reduceEq, Int.reduceBEq, Int.reduceLE, Int.reduceLT, insR, hn, hy, reduceCtorEq, Option.some.injEq, if_false, e5, e6, List.length_append, List.length_cons, List.length_drop, List.length_take, List.length_map, List.map_append, List.map_cons, List.map_take, List.map_drop, decide_true]
    · trivial
    · rfl
end Go.Proofs.YtjgooecohepkoaaGreatDoor
namespace Go.Proofs.YtjgooecohepkoaaGreatDoor
open Go Go.Abs
def fuelX : Nat := 1000000
noncomputable def RX : Run := X sys.T sys.gl fns.get hk ext fuelX
noncomputable def xf (k : Nat) (args : List D) (S : Store) (n : Nat) : Option XC := xCall sys.T fns.get hk RX k args S n
@[go_sem] def nilS : D := .v (.slice none 0 0)
@[go_sem] def i0 : D := .v (.int .i64 0)
@[go_sem] def vT (s : List UInt8) : List D := [.v (.int .i64 1), .s s, i0, i0, i0, nilS, nilS]
@[go_sem] def vN (n : Int) : List D := [.v (.int .i64 2), .s [], .v (.int .i64 n), i0, i0, nilS, nilS]
@[go_sem] def vZ : List D := [i0, .s [], i0, i0, i0, nilS, nilS]
@[go_sem] def sCity : List UInt8 := [99, 105, 116, 121]
@[go_sem] def sZip : List UInt8 := [122, 105, 112]
@[go_sem] def sCountry : List UInt8 := [99, 111, 117, 110, 116, 114, 121]
@[go_sem] def sNo : List UInt8 := [110, 111]
@[go_sem] def cCols : D := .sl [[.s sCity], [.s sZip], [.s sCountry]] 1
@[go_sem] def cRows : D := .sl [[.sl [vT [82, 111, 109, 101], vN 1, vT [105, 116]] 7], [.sl [vT [79, 115, 108, 111], vN 2, vT [110, 111]] 7], [.sl [vT [66, 101, 114, 103, 101, 110], vN 3, vT [110, 111]] 7]] 1
@[go_sem] def cTab : D := .agg [.s [116], cCols, cRows]
@[go_sem] def nTab : D := .agg [.v (.int .i64 5), .s [], i0, i0, i0, .sl [[.s [110]]] 1, .sl [[.sl [vN 3] 7], [.sl [vN (-5)] 7], [.sl [vN 4] 7]] 1]
theorem xf_fn {k : Nat} {args : List D} {S : Store} {n : Nat} {d : D} {pre post : Store} {n' : Nat} (h : xf k args S n = some (d, pre, post, n')) : FnOK sys k args pre d post := by
  unfold xf RX at h
  exact X_fn (Y := sys) (fns := fns.get) (hk := hk) (ext := ext) fns_ok hk_ok ext_ok fuelX h
end Go.Proofs.YtjgooecohepkoaaGreatDoor
namespace Go.Proofs.YtjgooecohepkoaaGreatDoor
open Go Go.Abs
theorem sf15a : FnOK sys 15 [cTab, .s sCity, .agg (vT [79, 115, 108, 111]), .s sCountry] [] (.tup [.agg (vT sNo), i0]) [] := xf_fn (S := []) (n := 0) (n' := 123) (by kernel_rfl)
theorem sf22a : FnOK sys 22 [nTab, .s [110], .agg [.v (.int .i64 (-2)), i0]] [] (.tup [.agg (vN 2), i0]) [] := xf_fn (S := []) (n := 0) (n' := 156) (by kernel_rfl)
theorem sf22b : FnOK sys 22 [nTab, .s [110], .agg [i0, i0]] [] (.tup [.agg vZ, .v (.int .i64 20)]) [] := xf_fn (S := []) (n := 0) (n' := 116) (by kernel_rfl)
theorem sf26a : FnOK sys 26 [cCols, cRows, .agg [.sl [[.s sCountry]] 1, .s sZip]] [] (.v (.bool false)) [] := xf_fn (S := []) (n := 0) (n' := 18) (by kernel_rfl)
theorem sf26b : FnOK sys 26 [cCols, cRows, .agg [.sl [[.s sCity]] 1, .s sCountry]] [] (.v (.bool true)) [] := xf_fn (S := []) (n := 0) (n' := 16) (by kernel_rfl)
theorem sf19 : FnOK sys 19 [cTab] [] (.v (.bool true)) [] := xf_fn (S := []) (n := 0) (n' := 103) (by kernel_rfl)
theorem sf18a : FnOK sys 18 [.agg (vT sNo), .agg (vT sNo)] [] (.v (.bool true)) [] := xf_fn (S := []) (n := 0) (n' := 2) (by kernel_rfl)
theorem sf18b : FnOK sys 18 [.agg (vN 2), .agg (vN 2)] [] (.v (.bool true)) [] := xf_fn (S := []) (n := 0) (n' := 2) (by kernel_rfl)
end Go.Proofs.YtjgooecohepkoaaGreatDoor
namespace Go.Proofs.YtjgooecohepkoaaGreatDoor
open Go Go.Abs
@[go_sem] def kPost : Store := [(149, .row 9 1 [[.s sZip]]), (145, .row 9 1 [[.s sZip]]), (85, .row 9 1 [[.s sCity]]), (81, .row 9 1 [[.s sCity]]), (151, .row 52 2 [[.own 81 1, .s sZip], [.own 85 1, .s sCountry], [.own 145 1, .s sCity], [.own 149 1, .s sCountry]])]
@[go_sem] def kWant : D := .sl [[.sl [[.s sCity]] 1, .s sZip], [.sl [[.s sCity]] 1, .s sCountry], [.sl [[.s sZip]] 1, .s sCity], [.sl [[.s sZip]] 1, .s sCountry]] 2
theorem sf46 : FnOK sys 46 [cCols, cRows] [] (.own 151 4) kPost := xf_fn (S := []) (n := 0) (n' := 187) (by kernel_rfl)
theorem sf15b : FnOK sys 15 [cTab, .s sCity, .agg (vT [80, 97, 114, 105, 115]), .s sCountry] [] (.tup [.agg vZ, .v (.int .i64 18)]) [] := xf_fn (S := []) (n := 0) (n' := 126) (by kernel_rfl)
theorem sf27 : FnOK sys 27 [.sl [[.sl [[.s [97]]] 1, .s [98]],[.sl [[.s [98]]] 1, .s [99]]] 2, .sl [[.s [97]]] 1] [] (.own 208 3) [(208, .row 9 1 [[.s [97]], [.s [98]], [.s [99]]])] := xf_fn (S := []) (n := 200) (n' := 209) (by kernel_rfl)
theorem sf28 : FnOK sys 28 [.own 208 3, .sl [[.s [97]],[.s [98]],[.s [99]]] 1] [(208, .row 9 1 [[.s [97]], [.s [98]], [.s [99]]])] (.v (.bool true)) [(208, .row 9 1 [[.s [97]], [.s [98]], [.s [99]]])] := xf_fn (S := [(208, .row 9 1 [[.s [97]], [.s [98]], [.s [99]]])]) (n := 209) (n' := 209) (by kernel_rfl)
theorem sf48r : FnOK sys 48 [.own 151 4, kWant] kPost (.v (.bool true)) kPost.reverse := xf_fn (S := kPost) (n := 152) (n' := 152) (by kernel_rfl)
theorem kPost_rev : Abs.look kPost.reverse = Abs.look kPost := by
  funext l
  simp only [kPost, List.reverse_cons, List.reverse_nil, List.nil_append, List.cons_append, Abs.look]
  by_cases h1 : 151 = l
  · subst h1; rfl
  by_cases h2 : 81 = l
  · subst h2; rfl
  by_cases h3 : 85 = l
  · subst h3; rfl
  by_cases h4 : 145 = l
  · subst h4; rfl
  by_cases h5 : 149 = l
  · subst h5; rfl
  simp [h1, h2, h3, h4, h5]
theorem sf48 : FnOK sys 48 [.own 151 4, kWant] kPost (.v (.bool true)) kPost := by
  refine ⟨sf48r.1, fun E w g vs hr hvs hs hf => ?_⟩
  have := sf48r.2 E w g vs hr hvs hs (by rw [kPost_rev]; exact hf)
  rwa [kPost_rev] at this
end Go.Proofs.YtjgooecohepkoaaGreatDoor
namespace Go.Proofs.YtjgooecohepkoaaGreatDoor
open Go Go.Abs
set_option linter.unusedSimpArgs false
theorem f45_ok (s : List UInt8) : FnOK sys 45 [.s s] [] (.agg (vT s)) [] := by
  refine FnOK.intro Tryz.f45 (by kernel_rfl) rfl rfl [.cell 2 33] rfl 0 rfl (Nat.le_of_ble_eq_true rfl) rfl rfl fun E hN h0 => W.code (N := 5) [] hN ?_
  repeat (first | refine st_end rfl ?_ | ((first | refine st_op fun K k => ?_ | refine st_op0 fun K k => ?_ | refine st_opT fun K k => ?_ | refine st_grd rfl fun A B C k k' k2 => ?_ | refine st_cond fun A B k k' => ?_); simp only [go_sem, reduceIte, Nat.reduceEqDiff, Nat.reduceAdd, Nat.reduceMul, Nat.reduceSub, Nat.reduceLT, Nat.reduceLeDiff, Int.reduceToNat, reduceCtorEq, Int.reduceEq, Int.reduceBEq, Int.reduceLE, Int.reduceLT]; first | (refine k _ _ _ _ _ ?_; clear k K) | (refine k ?_; clear k k' k2 A B C) | (refine k' ?_; clear k k' k2 A B C) | (refine k2 ?_; clear k k' k2 A B C) | (refine k ?_; clear k k' A B) | (refine k' ?_; clear k k' A B)))
  refine Done.mk (.inr rfl) Into.refl ?_ [] 0 ?_ ?_ ?_ ?_
  · rfl
  · rfl
  · simp only [go_sem, reduceIte, Nat.reduceEqDiff, Nat.reduceAdd, Nat.reduceMul, Nat.reduceSub, Nat.reduceLT, Nat.reduceLeDiff, Int.reduceToNat, reduceCtorEq, Int.reduceEq, Int.reduceBEq, Int.reduceLE, Int.reduceLT]
  · trivial
  · rfl
theorem f47_ok (n : Int) : FnOK sys 47 [.v (.int .i64 n)] [] (.agg (vN n)) [] := by
  refine FnOK.intro Tryz.f47 (by kernel_rfl) rfl rfl [.cell 2 33] rfl 0 rfl (Nat.le_of_ble_eq_true rfl) rfl rfl fun E hN h0 => W.code (N := 6) [] hN ?_
  repeat (first | refine st_end rfl ?_ | ((first | refine st_op fun K k => ?_ | refine st_op0 fun K k => ?_ | refine st_opT fun K k => ?_ | refine st_grd rfl fun A B C k k' k2 => ?_ | refine st_cond fun A B k k' => ?_); simp only [go_sem, reduceIte, Nat.reduceEqDiff, Nat.reduceAdd, Nat.reduceMul, Nat.reduceSub, Nat.reduceLT, Nat.reduceLeDiff, Int.reduceToNat, reduceCtorEq, Int.reduceEq, Int.reduceBEq, Int.reduceLE, Int.reduceLT]; first | (refine k _ _ _ _ _ ?_; clear k K) | (refine k ?_; clear k k' k2 A B C) | (refine k' ?_; clear k k' k2 A B C) | (refine k2 ?_; clear k k' k2 A B C) | (refine k ?_; clear k k' A B) | (refine k' ?_; clear k k' A B)))
  refine Done.mk (.inr rfl) Into.refl ?_ [] 0 ?_ ?_ ?_ ?_
  · rfl
  · rfl
  · simp only [go_sem, reduceIte, Nat.reduceEqDiff, Nat.reduceAdd, Nat.reduceMul, Nat.reduceSub, Nat.reduceLT, Nat.reduceLeDiff, Int.reduceToNat, reduceCtorEq, Int.reduceEq, Int.reduceBEq, Int.reduceLE, Int.reduceLT]
  · trivial
  · rfl
theorem f44_ok : FnOK sys 44 [] [] cTab [] := by
  refine FnOK.intro Tryz.f44 (by kernel_rfl) rfl rfl [.cell 0 28] rfl 0 rfl (Nat.le_of_ble_eq_true rfl) rfl rfl fun E hN h0 => W.code (N := 16) [1, 5, 9, 13, 14] hN ?_
  repeat (first | refine st_end rfl ?_ | ((first | refine st_op fun K k => ?_ | refine st_op0 fun K k => ?_ | refine st_opT fun K k => ?_ | refine st_grd rfl fun A B C k k' k2 => ?_ | refine st_cond fun A B k k' => ?_); simp only [go_sem, reduceIte, Nat.reduceEqDiff, Nat.reduceAdd, Nat.reduceMul, Nat.reduceSub, Nat.reduceLT, Nat.reduceLeDiff, Int.reduceToNat, reduceCtorEq, Int.reduceEq, Int.reduceBEq, Int.reduceLE, Int.reduceLT]; first | (refine k _ _ _ _ _ ?_; clear k K) | (refine k ?_; clear k k' k2 A B C) | (refine k' ?_; clear k k' k2 A B C) | (refine k2 ?_; clear k k' k2 A B C) | (refine k ?_; clear k k' A B) | (refine k' ?_; clear k k' A B)))
  refine st_op fun K k => ?_
  simp only [go_sem, reduceIte, Nat.reduceEqDiff, Nat.reduceAdd, Nat.reduceMul, Nat.reduceSub, Nat.reduceLT, Nat.reduceLeDiff, Int.reduceToNat, reduceCtorEq, Int.reduceEq, Int.reduceBEq, Int.reduceLE, Int.reduceLT]
  refine callP (f45_ok _) ?_
  refine k _ _ _ _ _ ?_; clear k K
  refine st_op fun K k => ?_
  simp only [go_sem, reduceIte, Nat.reduceEqDiff, Nat.reduceAdd, Nat.reduceMul, Nat.reduceSub, Nat.reduceLT, Nat.reduceLeDiff, Int.reduceToNat, reduceCtorEq, Int.reduceEq, Int.reduceBEq, Int.reduceLE, Int.reduceLT]
  refine callP (f47_ok _) ?_
  refine k _ _ _ _ _ ?_; clear k K
  refine st_op fun K k => ?_
  simp only [go_sem, reduceIte, Nat.reduceEqDiff, Nat.reduceAdd, Nat.reduceMul, Nat.reduceSub, Nat.reduceLT, Nat.reduceLeDiff, Int.reduceToNat, reduceCtorEq, Int.reduceEq, Int.reduceBEq, Int.reduceLE, Int.reduceLT]
  refine callP (f45_ok _) ?_
  refine k _ _ _ _ _ ?_; clear k K
  repeat (first | refine st_end rfl ?_ | ((first | refine st_op fun K k => ?_ | refine st_op0 fun K k => ?_ | refine st_opT fun K k => ?_ | refine st_grd rfl fun A B C k k' k2 => ?_ | refine st_cond fun A B k k' => ?_); simp only [go_sem, reduceIte, Nat.reduceEqDiff, Nat.reduceAdd, Nat.reduceMul, Nat.reduceSub, Nat.reduceLT, Nat.reduceLeDiff, Int.reduceToNat, reduceCtorEq, Int.reduceEq, Int.reduceBEq, Int.reduceLE, Int.reduceLT]; first | (refine k _ _ _ _ _ ?_; clear k K) | (refine k ?_; clear k k' k2 A B C) | (refine k' ?_; clear k k' k2 A B C) | (refine k2 ?_; clear k k' k2 A B C) | (refine k ?_; clear k k' A B) | (refine k' ?_; clear k k' A B)))
  refine st_op fun K k => ?_
  simp only [go_sem, reduceIte, Nat.reduceEqDiff, Nat.reduceAdd, Nat.reduceMul, Nat.reduceSub, Nat.reduceLT, Nat.reduceLeDiff, Int.reduceToNat, reduceCtorEq, Int.reduceEq, Int.reduceBEq, Int.reduceLE, Int.reduceLT]
  refine callP (f45_ok _) ?_
  refine k _ _ _ _ _ ?_; clear k K
  refine st_op fun K k => ?_
  simp only [go_sem, reduceIte, Nat.reduceEqDiff, Nat.reduceAdd, Nat.reduceMul, Nat.reduceSub, Nat.reduceLT, Nat.reduceLeDiff, Int.reduceToNat, reduceCtorEq, Int.reduceEq, Int.reduceBEq, Int.reduceLE, Int.reduceLT]
  refine callP (f47_ok _) ?_
  refine k _ _ _ _ _ ?_; clear k K
  refine st_op fun K k => ?_
  simp only [go_sem, reduceIte, Nat.reduceEqDiff, Nat.reduceAdd, Nat.reduceMul, Nat.reduceSub, Nat.reduceLT, Nat.reduceLeDiff, Int.reduceToNat, reduceCtorEq, Int.reduceEq, Int.reduceBEq, Int.reduceLE, Int.reduceLT]
  refine callP (f45_ok _) ?_
  refine k _ _ _ _ _ ?_; clear k K
  repeat (first | refine st_end rfl ?_ | ((first | refine st_op fun K k => ?_ | refine st_op0 fun K k => ?_ | refine st_opT fun K k => ?_ | refine st_grd rfl fun A B C k k' k2 => ?_ | refine st_cond fun A B k k' => ?_); simp only [go_sem, reduceIte, Nat.reduceEqDiff, Nat.reduceAdd, Nat.reduceMul, Nat.reduceSub, Nat.reduceLT, Nat.reduceLeDiff, Int.reduceToNat, reduceCtorEq, Int.reduceEq, Int.reduceBEq, Int.reduceLE, Int.reduceLT]; first | (refine k _ _ _ _ _ ?_; clear k K) | (refine k ?_; clear k k' k2 A B C) | (refine k' ?_; clear k k' k2 A B C) | (refine k2 ?_; clear k k' k2 A B C) | (refine k ?_; clear k k' A B) | (refine k' ?_; clear k k' A B)))
  refine st_op fun K k => ?_
  simp only [go_sem, reduceIte, Nat.reduceEqDiff, Nat.reduceAdd, Nat.reduceMul, Nat.reduceSub, Nat.reduceLT, Nat.reduceLeDiff, Int.reduceToNat, reduceCtorEq, Int.reduceEq, Int.reduceBEq, Int.reduceLE, Int.reduceLT]
  refine callP (f45_ok _) ?_
  refine k _ _ _ _ _ ?_; clear k K
  refine st_op fun K k => ?_
  simp only [go_sem, reduceIte, Nat.reduceEqDiff, Nat.reduceAdd, Nat.reduceMul, Nat.reduceSub, Nat.reduceLT, Nat.reduceLeDiff, Int.reduceToNat, reduceCtorEq, Int.reduceEq, Int.reduceBEq, Int.reduceLE, Int.reduceLT]
  refine callP (f47_ok _) ?_
  refine k _ _ _ _ _ ?_; clear k K
  refine st_op fun K k => ?_
  simp only [go_sem, reduceIte, Nat.reduceEqDiff, Nat.reduceAdd, Nat.reduceMul, Nat.reduceSub, Nat.reduceLT, Nat.reduceLeDiff, Int.reduceToNat, reduceCtorEq, Int.reduceEq, Int.reduceBEq, Int.reduceLE, Int.reduceLT]
  refine callP (f45_ok _) ?_
  refine k _ _ _ _ _ ?_; clear k K
  repeat (first | refine st_end rfl ?_ | ((first | refine st_op fun K k => ?_ | refine st_op0 fun K k => ?_ | refine st_opT fun K k => ?_ | refine st_grd rfl fun A B C k k' k2 => ?_ | refine st_cond fun A B k k' => ?_); simp only [go_sem, reduceIte, Nat.reduceEqDiff, Nat.reduceAdd, Nat.reduceMul, Nat.reduceSub, Nat.reduceLT, Nat.reduceLeDiff, Int.reduceToNat, reduceCtorEq, Int.reduceEq, Int.reduceBEq, Int.reduceLE, Int.reduceLT]; first | (refine k _ _ _ _ _ ?_; clear k K) | (refine k ?_; clear k k' k2 A B C) | (refine k' ?_; clear k k' k2 A B C) | (refine k2 ?_; clear k k' k2 A B C) | (refine k ?_; clear k k' A B) | (refine k' ?_; clear k k' A B)))
  refine Done.mk (.inr rfl) Into.refl ?_ [] 0 ?_ ?_ ?_ ?_
  · rfl
  · rfl
  · simp only [go_sem, reduceIte, Nat.reduceEqDiff, Nat.reduceAdd, Nat.reduceMul, Nat.reduceSub, Nat.reduceLT, Nat.reduceLeDiff, Int.reduceToNat, reduceCtorEq, Int.reduceEq, Int.reduceBEq, Int.reduceLE, Int.reduceLT]
  · trivial
  · rfl
set_option maxRecDepth 20000 in
set_option maxHeartbeats 2000000 in
theorem f11_ok : FnOK sys 11 [] [] (.v (.bool true)) [] := by
  refine FnOK.intro Tryz.f11 (by kernel_rfl) rfl rfl [.tmp 0] rfl 0 rfl (Nat.le_of_ble_eq_true rfl) rfl rfl fun E hN h0 => W.code (N := 128) [33, 35, 37, 39, 41, 42, 44, 46, 47, 49, 51, 53, 55, 56, 74, 83, 112] hN ?_
  repeat (first | refine st_end rfl ?_ | ((first | refine st_op fun K k => ?_ | refine st_op0 fun K k => ?_ | refine st_opT fun K k => ?_ | refine st_grd rfl fun A B C k k' k2 => ?_ | refine st_cond fun A B k k' => ?_); simp only [go_sem, reduceIte, Nat.reduceEqDiff, Nat.reduceAdd, Nat.reduceMul, Nat.reduceSub, Nat.reduceLT, Nat.reduceLeDiff, Int.reduceToNat, reduceCtorEq, Int.reduceEq, Int.reduceBEq, Int.reduceLE, Int.reduceLT]; first | (refine k _ _ _ _ _ ?_; clear k K) | (refine k ?_; clear k k' k2 A B C) | (refine k' ?_; clear k k' k2 A B C) | (refine k2 ?_; clear k k' k2 A B C) | (refine k ?_; clear k k' A B) | (refine k' ?_; clear k k' A B)))
  (first | refine st_op fun K k => ?_ | refine st_opT fun K k => ?_); simp only [go_sem, reduceIte, Nat.reduceEqDiff, Nat.reduceAdd, Nat.reduceMul, Nat.reduceSub, Nat.reduceLT, Nat.reduceLeDiff, Int.reduceToNat, reduceCtorEq, Int.reduceEq, Int.reduceBEq, Int.reduceLE, Int.reduceLT]; refine callP (f44_ok) ?_; refine k _ _ _ _ _ ?_; clear k K
  repeat (first | refine st_end rfl ?_ | ((first | refine st_op fun K k => ?_ | refine st_op0 fun K k => ?_ | refine st_opT fun K k => ?_ | refine st_grd rfl fun A B C k k' k2 => ?_ | refine st_cond fun A B k k' => ?_); simp only [go_sem, reduceIte, Nat.reduceEqDiff, Nat.reduceAdd, Nat.reduceMul, Nat.reduceSub, Nat.reduceLT, Nat.reduceLeDiff, Int.reduceToNat, reduceCtorEq, Int.reduceEq, Int.reduceBEq, Int.reduceLE, Int.reduceLT]; first | (refine k _ _ _ _ _ ?_; clear k K) | (refine k ?_; clear k k' k2 A B C) | (refine k' ?_; clear k k' k2 A B C) | (refine k2 ?_; clear k k' k2 A B C) | (refine k ?_; clear k k' A B) | (refine k' ?_; clear k k' A B)))
  (first | refine st_op fun K k => ?_ | refine st_opT fun K k => ?_); simp only [go_sem, reduceIte, Nat.reduceEqDiff, Nat.reduceAdd, Nat.reduceMul, Nat.reduceSub, Nat.reduceLT, Nat.reduceLeDiff, Int.reduceToNat, reduceCtorEq, Int.reduceEq, Int.reduceBEq, Int.reduceLE, Int.reduceLT]; refine callP (f45_ok _) ?_; refine k _ _ _ _ _ ?_; clear k K
  (first | refine st_op fun K k => ?_ | refine st_opT fun K k => ?_); simp only [go_sem, reduceIte, Nat.reduceEqDiff, Nat.reduceAdd, Nat.reduceMul, Nat.reduceSub, Nat.reduceLT, Nat.reduceLeDiff, Int.reduceToNat, reduceCtorEq, Int.reduceEq, Int.reduceBEq, Int.reduceLE, Int.reduceLT]; refine callP (sf15a) ?_; refine k _ _ _ _ _ ?_; clear k K
  repeat (first | refine st_end rfl ?_ | ((first | refine st_op fun K k => ?_ | refine st_op0 fun K k => ?_ | refine st_opT fun K k => ?_ | refine st_grd rfl fun A B C k k' k2 => ?_ | refine st_cond fun A B k k' => ?_); simp only [go_sem, reduceIte, Nat.reduceEqDiff, Nat.reduceAdd, Nat.reduceMul, Nat.reduceSub, Nat.reduceLT, Nat.reduceLeDiff, Int.reduceToNat, reduceCtorEq, Int.reduceEq, Int.reduceBEq, Int.reduceLE, Int.reduceLT]; first | (refine k _ _ _ _ _ ?_; clear k K) | (refine k ?_; clear k k' k2 A B C) | (refine k' ?_; clear k k' k2 A B C) | (refine k2 ?_; clear k k' k2 A B C) | (refine k ?_; clear k k' A B) | (refine k' ?_; clear k k' A B)))
  (first | refine st_op fun K k => ?_ | refine st_opT fun K k => ?_); simp only [go_sem, reduceIte, Nat.reduceEqDiff, Nat.reduceAdd, Nat.reduceMul, Nat.reduceSub, Nat.reduceLT, Nat.reduceLeDiff, Int.reduceToNat, reduceCtorEq, Int.reduceEq, Int.reduceBEq, Int.reduceLE, Int.reduceLT]; refine callP (f45_ok _) ?_; refine k _ _ _ _ _ ?_; clear k K
  (first | refine st_op fun K k => ?_ | refine st_opT fun K k => ?_); simp only [go_sem, reduceIte, Nat.reduceEqDiff, Nat.reduceAdd, Nat.reduceMul, Nat.reduceSub, Nat.reduceLT, Nat.reduceLeDiff, Int.reduceToNat, reduceCtorEq, Int.reduceEq, Int.reduceBEq, Int.reduceLE, Int.reduceLT]; refine callP (sf15b) ?_; refine k _ _ _ _ _ ?_; clear k K
  repeat (first | refine st_end rfl ?_ | ((first | refine st_op fun K k => ?_ | refine st_op0 fun K k => ?_ | refine st_opT fun K k => ?_ | refine st_grd rfl fun A B C k k' k2 => ?_ | refine st_cond fun A B k k' => ?_); simp only [go_sem, reduceIte, Nat.reduceEqDiff, Nat.reduceAdd, Nat.reduceMul, Nat.reduceSub, Nat.reduceLT, Nat.reduceLeDiff, Int.reduceToNat, reduceCtorEq, Int.reduceEq, Int.reduceBEq, Int.reduceLE, Int.reduceLT]; first | (refine k _ _ _ _ _ ?_; clear k K) | (refine k ?_; clear k k' k2 A B C) | (refine k' ?_; clear k k' k2 A B C) | (refine k2 ?_; clear k k' k2 A B C) | (refine k ?_; clear k k' A B) | (refine k' ?_; clear k k' A B)))
  refine st_op fun K k => ?_
  simp only [go_sem, reduceIte, Nat.reduceEqDiff, Nat.reduceAdd, Nat.reduceMul, Nat.reduceSub, Nat.reduceLT, Nat.reduceLeDiff, Int.reduceToNat, reduceCtorEq, Int.reduceEq, Int.reduceBEq, Int.reduceLE, Int.reduceLT]
  refine callT sf46 152 (by trivial) (by omega) (by simp only [go_sem, reduceIte, Nat.reduceEqDiff, Nat.reduceAdd, Nat.reduceMul, Nat.reduceSub, Nat.reduceLT, Nat.reduceLeDiff, Int.reduceToNat, reduceCtorEq, Int.reduceEq, Int.reduceBEq, Int.reduceLE, Int.reduceLT]) ?_
  simp only [go_sem, reduceIte, Nat.reduceEqDiff, Nat.reduceAdd, Nat.reduceMul, Nat.reduceSub, Nat.reduceLT, Nat.reduceLeDiff, Int.reduceToNat, reduceCtorEq, Int.reduceEq, Int.reduceBEq, Int.reduceLE, Int.reduceLT]
  refine k _ _ _ _ _ ?_; clear k K
  repeat (first | refine st_end rfl ?_ | ((first | refine st_op fun K k => ?_ | refine st_op0 fun K k => ?_ | refine st_opT fun K k => ?_ | refine st_grd rfl fun A B C k k' k2 => ?_ | refine st_cond fun A B k k' => ?_); simp only [go_sem, reduceIte, Nat.reduceEqDiff, Nat.reduceAdd, Nat.reduceMul, Nat.reduceSub, Nat.reduceLT, Nat.reduceLeDiff, Int.reduceToNat, reduceCtorEq, Int.reduceEq, Int.reduceBEq, Int.reduceLE, Int.reduceLT]; first | (refine k _ _ _ _ _ ?_; clear k K) | (refine k ?_; clear k k' k2 A B C) | (refine k' ?_; clear k k' k2 A B C) | (refine k2 ?_; clear k k' k2 A B C) | (refine k ?_; clear k k' A B) | (refine k' ?_; clear k k' A B)))
  refine st_op fun K k => ?_
  simp only [go_sem, reduceIte, Nat.reduceEqDiff, Nat.reduceAdd, Nat.reduceMul, Nat.reduceSub, Nat.reduceLT, Nat.reduceLeDiff, Int.reduceToNat, reduceCtorEq, Int.reduceEq, Int.reduceBEq, Int.reduceLE, Int.reduceLT]
  refine callT sf27 209 (by trivial) (by omega) (by simp only [go_sem, reduceIte, Nat.reduceEqDiff, Nat.reduceAdd, Nat.reduceMul, Nat.reduceSub, Nat.reduceLT, Nat.reduceLeDiff, Int.reduceToNat, reduceCtorEq, Int.reduceEq, Int.reduceBEq, Int.reduceLE, Int.reduceLT]) ?_
  simp only [go_sem, reduceIte, Nat.reduceEqDiff, Nat.reduceAdd, Nat.reduceMul, Nat.reduceSub, Nat.reduceLT, Nat.reduceLeDiff, Int.reduceToNat, reduceCtorEq, Int.reduceEq, Int.reduceBEq, Int.reduceLE, Int.reduceLT]
  refine k _ _ _ _ _ ?_; clear k K
  repeat (first | refine st_end rfl ?_ | ((first | refine st_op fun K k => ?_ | refine st_op0 fun K k => ?_ | refine st_opT fun K k => ?_ | refine st_grd rfl fun A B C k k' k2 => ?_ | refine st_cond fun A B k k' => ?_); simp only [go_sem, reduceIte, Nat.reduceEqDiff, Nat.reduceAdd, Nat.reduceMul, Nat.reduceSub, Nat.reduceLT, Nat.reduceLeDiff, Int.reduceToNat, reduceCtorEq, Int.reduceEq, Int.reduceBEq, Int.reduceLE, Int.reduceLT]; first | (refine k _ _ _ _ _ ?_; clear k K) | (refine k ?_; clear k k' k2 A B C) | (refine k' ?_; clear k k' k2 A B C) | (refine k2 ?_; clear k k' k2 A B C) | (refine k ?_; clear k k' A B) | (refine k' ?_; clear k k' A B)))
  (first | refine st_op fun K k => ?_ | refine st_opT fun K k => ?_); simp only [go_sem, reduceIte, Nat.reduceEqDiff, Nat.reduceAdd, Nat.reduceMul, Nat.reduceSub, Nat.reduceLT, Nat.reduceLeDiff, Int.reduceToNat, reduceCtorEq, Int.reduceEq, Int.reduceBEq, Int.reduceLE, Int.reduceLT]; refine callP (f47_ok _) ?_; refine k _ _ _ _ _ ?_; clear k K
  repeat (first | refine st_end rfl ?_ | ((first | refine st_op fun K k => ?_ | refine st_op0 fun K k => ?_ | refine st_opT fun K k => ?_ | refine st_grd rfl fun A B C k k' k2 => ?_ | refine st_cond fun A B k k' => ?_); simp only [go_sem, reduceIte, Nat.reduceEqDiff, Nat.reduceAdd, Nat.reduceMul, Nat.reduceSub, Nat.reduceLT, Nat.reduceLeDiff, Int.reduceToNat, reduceCtorEq, Int.reduceEq, Int.reduceBEq, Int.reduceLE, Int.reduceLT]; first | (refine k _ _ _ _ _ ?_; clear k K) | (refine k ?_; clear k k' k2 A B C) | (refine k' ?_; clear k k' k2 A B C) | (refine k2 ?_; clear k k' k2 A B C) | (refine k ?_; clear k k' A B) | (refine k' ?_; clear k k' A B)))
  (first | refine st_op fun K k => ?_ | refine st_opT fun K k => ?_); simp only [go_sem, reduceIte, Nat.reduceEqDiff, Nat.reduceAdd, Nat.reduceMul, Nat.reduceSub, Nat.reduceLT, Nat.reduceLeDiff, Int.reduceToNat, reduceCtorEq, Int.reduceEq, Int.reduceBEq, Int.reduceLE, Int.reduceLT]; refine callP (f47_ok _) ?_; refine k _ _ _ _ _ ?_; clear k K
  repeat (first | refine st_end rfl ?_ | ((first | refine st_op fun K k => ?_ | refine st_op0 fun K k => ?_ | refine st_opT fun K k => ?_ | refine st_grd rfl fun A B C k k' k2 => ?_ | refine st_cond fun A B k k' => ?_); simp only [go_sem, reduceIte, Nat.reduceEqDiff, Nat.reduceAdd, Nat.reduceMul, Nat.reduceSub, Nat.reduceLT, Nat.reduceLeDiff, Int.reduceToNat, reduceCtorEq, Int.reduceEq, Int.reduceBEq, Int.reduceLE, Int.reduceLT]; first | (refine k _ _ _ _ _ ?_; clear k K) | (refine k ?_; clear k k' k2 A B C) | (refine k' ?_; clear k k' k2 A B C) | (refine k2 ?_; clear k k' k2 A B C) | (refine k ?_; clear k k' A B) | (refine k' ?_; clear k k' A B)))
  (first | refine st_op fun K k => ?_ | refine st_opT fun K k => ?_); simp only [go_sem, reduceIte, Nat.reduceEqDiff, Nat.reduceAdd, Nat.reduceMul, Nat.reduceSub, Nat.reduceLT, Nat.reduceLeDiff, Int.reduceToNat, reduceCtorEq, Int.reduceEq, Int.reduceBEq, Int.reduceLE, Int.reduceLT]; refine callP (f47_ok _) ?_; refine k _ _ _ _ _ ?_; clear k K
  repeat (first | refine st_end rfl ?_ | ((first | refine st_op fun K k => ?_ | refine st_op0 fun K k => ?_ | refine st_opT fun K k => ?_ | refine st_grd rfl fun A B C k k' k2 => ?_ | refine st_cond fun A B k k' => ?_); simp only [go_sem, reduceIte, Nat.reduceEqDiff, Nat.reduceAdd, Nat.reduceMul, Nat.reduceSub, Nat.reduceLT, Nat.reduceLeDiff, Int.reduceToNat, reduceCtorEq, Int.reduceEq, Int.reduceBEq, Int.reduceLE, Int.reduceLT]; first | (refine k _ _ _ _ _ ?_; clear k K) | (refine k ?_; clear k k' k2 A B C) | (refine k' ?_; clear k k' k2 A B C) | (refine k2 ?_; clear k k' k2 A B C) | (refine k ?_; clear k k' A B) | (refine k' ?_; clear k k' A B)))
  (first | refine st_op fun K k => ?_ | refine st_opT fun K k => ?_); simp only [go_sem, reduceIte, Nat.reduceEqDiff, Nat.reduceAdd, Nat.reduceMul, Nat.reduceSub, Nat.reduceLT, Nat.reduceLeDiff, Int.reduceToNat, reduceCtorEq, Int.reduceEq, Int.reduceBEq, Int.reduceLE, Int.reduceLT]; refine callP (sf22a) ?_; refine k _ _ _ _ _ ?_; clear k K
  repeat (first | refine st_end rfl ?_ | ((first | refine st_op fun K k => ?_ | refine st_op0 fun K k => ?_ | refine st_opT fun K k => ?_ | refine st_grd rfl fun A B C k k' k2 => ?_ | refine st_cond fun A B k k' => ?_); simp only [go_sem, reduceIte, Nat.reduceEqDiff, Nat.reduceAdd, Nat.reduceMul, Nat.reduceSub, Nat.reduceLT, Nat.reduceLeDiff, Int.reduceToNat, reduceCtorEq, Int.reduceEq, Int.reduceBEq, Int.reduceLE, Int.reduceLT]; first | (refine k _ _ _ _ _ ?_; clear k K) | (refine k ?_; clear k k' k2 A B C) | (refine k' ?_; clear k k' k2 A B C) | (refine k2 ?_; clear k k' k2 A B C) | (refine k ?_; clear k k' A B) | (refine k' ?_; clear k k' A B)))
  (first | refine st_op fun K k => ?_ | refine st_opT fun K k => ?_); simp only [go_sem, reduceIte, Nat.reduceEqDiff, Nat.reduceAdd, Nat.reduceMul, Nat.reduceSub, Nat.reduceLT, Nat.reduceLeDiff, Int.reduceToNat, reduceCtorEq, Int.reduceEq, Int.reduceBEq, Int.reduceLE, Int.reduceLT]; refine callP (sf22b) ?_; refine k _ _ _ _ _ ?_; clear k K
  repeat (first | refine st_end rfl ?_ | ((first | refine st_op fun K k => ?_ | refine st_op0 fun K k => ?_ | refine st_opT fun K k => ?_ | refine st_grd rfl fun A B C k k' k2 => ?_ | refine st_cond fun A B k k' => ?_); simp only [go_sem, reduceIte, Nat.reduceEqDiff, Nat.reduceAdd, Nat.reduceMul, Nat.reduceSub, Nat.reduceLT, Nat.reduceLeDiff, Int.reduceToNat, reduceCtorEq, Int.reduceEq, Int.reduceBEq, Int.reduceLE, Int.reduceLT]; first | (refine k _ _ _ _ _ ?_; clear k K) | (refine k ?_; clear k k' k2 A B C) | (refine k' ?_; clear k k' k2 A B C) | (refine k2 ?_; clear k k' k2 A B C) | (refine k ?_; clear k k' A B) | (refine k' ?_; clear k k' A B)))
  (first | refine st_op fun K k => ?_ | refine st_opT fun K k => ?_); simp only [go_sem, reduceIte, Nat.reduceEqDiff, Nat.reduceAdd, Nat.reduceMul, Nat.reduceSub, Nat.reduceLT, Nat.reduceLeDiff, Int.reduceToNat, reduceCtorEq, Int.reduceEq, Int.reduceBEq, Int.reduceLE, Int.reduceLT]; refine callP (sf26a) ?_; refine k _ _ _ _ _ ?_; clear k K
  repeat (first | refine st_end rfl ?_ | ((first | refine st_op fun K k => ?_ | refine st_op0 fun K k => ?_ | refine st_opT fun K k => ?_ | refine st_grd rfl fun A B C k k' k2 => ?_ | refine st_cond fun A B k k' => ?_); simp only [go_sem, reduceIte, Nat.reduceEqDiff, Nat.reduceAdd, Nat.reduceMul, Nat.reduceSub, Nat.reduceLT, Nat.reduceLeDiff, Int.reduceToNat, reduceCtorEq, Int.reduceEq, Int.reduceBEq, Int.reduceLE, Int.reduceLT]; first | (refine k _ _ _ _ _ ?_; clear k K) | (refine k ?_; clear k k' k2 A B C) | (refine k' ?_; clear k k' k2 A B C) | (refine k2 ?_; clear k k' k2 A B C) | (refine k ?_; clear k k' A B) | (refine k' ?_; clear k k' A B)))
  (first | refine st_op fun K k => ?_ | refine st_opT fun K k => ?_); simp only [go_sem, reduceIte, Nat.reduceEqDiff, Nat.reduceAdd, Nat.reduceMul, Nat.reduceSub, Nat.reduceLT, Nat.reduceLeDiff, Int.reduceToNat, reduceCtorEq, Int.reduceEq, Int.reduceBEq, Int.reduceLE, Int.reduceLT]; refine callP (sf26b) ?_; refine k _ _ _ _ _ ?_; clear k K
  repeat (first | refine st_end rfl ?_ | ((first | refine st_op fun K k => ?_ | refine st_op0 fun K k => ?_ | refine st_opT fun K k => ?_ | refine st_grd rfl fun A B C k k' k2 => ?_ | refine st_cond fun A B k k' => ?_); simp only [go_sem, reduceIte, Nat.reduceEqDiff, Nat.reduceAdd, Nat.reduceMul, Nat.reduceSub, Nat.reduceLT, Nat.reduceLeDiff, Int.reduceToNat, reduceCtorEq, Int.reduceEq, Int.reduceBEq, Int.reduceLE, Int.reduceLT]; first | (refine k _ _ _ _ _ ?_; clear k K) | (refine k ?_; clear k k' k2 A B C) | (refine k' ?_; clear k k' k2 A B C) | (refine k2 ?_; clear k k' k2 A B C) | (refine k ?_; clear k k' A B) | (refine k' ?_; clear k k' A B)))
  (first | refine st_op fun K k => ?_ | refine st_opT fun K k => ?_); simp only [go_sem, reduceIte, Nat.reduceEqDiff, Nat.reduceAdd, Nat.reduceMul, Nat.reduceSub, Nat.reduceLT, Nat.reduceLeDiff, Int.reduceToNat, reduceCtorEq, Int.reduceEq, Int.reduceBEq, Int.reduceLE, Int.reduceLT]; refine callP (sf19) ?_; refine k _ _ _ _ _ ?_; clear k K
  repeat (first | refine st_end rfl ?_ | ((first | refine st_op fun K k => ?_ | refine st_op0 fun K k => ?_ | refine st_opT fun K k => ?_ | refine st_grd rfl fun A B C k k' k2 => ?_ | refine st_cond fun A B k k' => ?_); simp only [go_sem, reduceIte, Nat.reduceEqDiff, Nat.reduceAdd, Nat.reduceMul, Nat.reduceSub, Nat.reduceLT, Nat.reduceLeDiff, Int.reduceToNat, reduceCtorEq, Int.reduceEq, Int.reduceBEq, Int.reduceLE, Int.reduceLT]; first | (refine k _ _ _ _ _ ?_; clear k K) | (refine k ?_; clear k k' k2 A B C) | (refine k' ?_; clear k k' k2 A B C) | (refine k2 ?_; clear k k' k2 A B C) | (refine k ?_; clear k k' A B) | (refine k' ?_; clear k k' A B)))
  (first | refine st_op fun K k => ?_ | refine st_opT fun K k => ?_); simp only [go_sem, reduceIte, Nat.reduceEqDiff, Nat.reduceAdd, Nat.reduceMul, Nat.reduceSub, Nat.reduceLT, Nat.reduceLeDiff, Int.reduceToNat, reduceCtorEq, Int.reduceEq, Int.reduceBEq, Int.reduceLE, Int.reduceLT]; refine callP (f45_ok _) ?_; refine k _ _ _ _ _ ?_; clear k K
  repeat (first | refine st_end rfl ?_ | ((first | refine st_op fun K k => ?_ | refine st_op0 fun K k => ?_ | refine st_opT fun K k => ?_ | refine st_grd rfl fun A B C k k' k2 => ?_ | refine st_cond fun A B k k' => ?_); simp only [go_sem, reduceIte, Nat.reduceEqDiff, Nat.reduceAdd, Nat.reduceMul, Nat.reduceSub, Nat.reduceLT, Nat.reduceLeDiff, Int.reduceToNat, reduceCtorEq, Int.reduceEq, Int.reduceBEq, Int.reduceLE, Int.reduceLT]; first | (refine k _ _ _ _ _ ?_; clear k K) | (refine k ?_; clear k k' k2 A B C) | (refine k' ?_; clear k k' k2 A B C) | (refine k2 ?_; clear k k' k2 A B C) | (refine k ?_; clear k k' A B) | (refine k' ?_; clear k k' A B)))
  (first | refine st_op fun K k => ?_ | refine st_opT fun K k => ?_); simp only [go_sem, reduceIte, Nat.reduceEqDiff, Nat.reduceAdd, Nat.reduceMul, Nat.reduceSub, Nat.reduceLT, Nat.reduceLeDiff, Int.reduceToNat, reduceCtorEq, Int.reduceEq, Int.reduceBEq, Int.reduceLE, Int.reduceLT]; refine callP (sf18a) ?_; refine k _ _ _ _ _ ?_; clear k K
  repeat (first | refine st_end rfl ?_ | ((first | refine st_op fun K k => ?_ | refine st_op0 fun K k => ?_ | refine st_opT fun K k => ?_ | refine st_grd rfl fun A B C k k' k2 => ?_ | refine st_cond fun A B k k' => ?_); simp only [go_sem, reduceIte, Nat.reduceEqDiff, Nat.reduceAdd, Nat.reduceMul, Nat.reduceSub, Nat.reduceLT, Nat.reduceLeDiff, Int.reduceToNat, reduceCtorEq, Int.reduceEq, Int.reduceBEq, Int.reduceLE, Int.reduceLT]; first | (refine k _ _ _ _ _ ?_; clear k K) | (refine k ?_; clear k k' k2 A B C) | (refine k' ?_; clear k k' k2 A B C) | (refine k2 ?_; clear k k' k2 A B C) | (refine k ?_; clear k k' A B) | (refine k' ?_; clear k k' A B)))
  refine st_opT fun K k => ?_
  simp only [go_sem, reduceIte, Nat.reduceEqDiff, Nat.reduceAdd, Nat.reduceMul, Nat.reduceSub, Nat.reduceLT, Nat.reduceLeDiff, Int.reduceToNat, reduceCtorEq, Int.reduceEq, Int.reduceBEq, Int.reduceLE, Int.reduceLT]
  refine callK sf48 (by simp only [go_sem, reduceIte, Nat.reduceEqDiff, Nat.reduceAdd, Nat.reduceMul, Nat.reduceSub, Nat.reduceLT, Nat.reduceLeDiff, Int.reduceToNat, reduceCtorEq, Int.reduceEq, Int.reduceBEq, Int.reduceLE, Int.reduceLT]) ?_
  refine k _ _ _ _ _ ?_; clear k K
  repeat (first | refine st_end rfl ?_ | ((first | refine st_op fun K k => ?_ | refine st_op0 fun K k => ?_ | refine st_opT fun K k => ?_ | refine st_grd rfl fun A B C k k' k2 => ?_ | refine st_cond fun A B k k' => ?_); simp only [go_sem, reduceIte, Nat.reduceEqDiff, Nat.reduceAdd, Nat.reduceMul, Nat.reduceSub, Nat.reduceLT, Nat.reduceLeDiff, Int.reduceToNat, reduceCtorEq, Int.reduceEq, Int.reduceBEq, Int.reduceLE, Int.reduceLT]; first | (refine k _ _ _ _ _ ?_; clear k K) | (refine k ?_; clear k k' k2 A B C) | (refine k' ?_; clear k k' k2 A B C) | (refine k2 ?_; clear k k' k2 A B C) | (refine k ?_; clear k k' A B) | (refine k' ?_; clear k k' A B)))
  refine st_opT fun K k => ?_
  simp only [go_sem, reduceIte, Nat.reduceEqDiff, Nat.reduceAdd, Nat.reduceMul, Nat.reduceSub, Nat.reduceLT, Nat.reduceLeDiff, Int.reduceToNat, reduceCtorEq, Int.reduceEq, Int.reduceBEq, Int.reduceLE, Int.reduceLT]
  refine callK sf28 (by simp only [go_sem, reduceIte, Nat.reduceEqDiff, Nat.reduceAdd, Nat.reduceMul, Nat.reduceSub, Nat.reduceLT, Nat.reduceLeDiff, Int.reduceToNat, reduceCtorEq, Int.reduceEq, Int.reduceBEq, Int.reduceLE, Int.reduceLT]) ?_
  refine k _ _ _ _ _ ?_; clear k K
  repeat (first | refine st_end rfl ?_ | ((first | refine st_op fun K k => ?_ | refine st_op0 fun K k => ?_ | refine st_opT fun K k => ?_ | refine st_grd rfl fun A B C k k' k2 => ?_ | refine st_cond fun A B k k' => ?_); simp only [go_sem, reduceIte, Nat.reduceEqDiff, Nat.reduceAdd, Nat.reduceMul, Nat.reduceSub, Nat.reduceLT, Nat.reduceLeDiff, Int.reduceToNat, reduceCtorEq, Int.reduceEq, Int.reduceBEq, Int.reduceLE, Int.reduceLT]; first | (refine k _ _ _ _ _ ?_; clear k K) | (refine k ?_; clear k k' k2 A B C) | (refine k' ?_; clear k k' k2 A B C) | (refine k2 ?_; clear k k' k2 A B C) | (refine k ?_; clear k k' A B) | (refine k' ?_; clear k k' A B)))
  (first | refine st_op fun K k => ?_ | refine st_opT fun K k => ?_); simp only [go_sem, reduceIte, Nat.reduceEqDiff, Nat.reduceAdd, Nat.reduceMul, Nat.reduceSub, Nat.reduceLT, Nat.reduceLeDiff, Int.reduceToNat, reduceCtorEq, Int.reduceEq, Int.reduceBEq, Int.reduceLE, Int.reduceLT]; refine callP (f47_ok _) ?_; refine k _ _ _ _ _ ?_; clear k K
  repeat (first | refine st_end rfl ?_ | ((first | refine st_op fun K k => ?_ | refine st_op0 fun K k => ?_ | refine st_opT fun K k => ?_ | refine st_grd rfl fun A B C k k' k2 => ?_ | refine st_cond fun A B k k' => ?_); simp only [go_sem, reduceIte, Nat.reduceEqDiff, Nat.reduceAdd, Nat.reduceMul, Nat.reduceSub, Nat.reduceLT, Nat.reduceLeDiff, Int.reduceToNat, reduceCtorEq, Int.reduceEq, Int.reduceBEq, Int.reduceLE, Int.reduceLT]; first | (refine k _ _ _ _ _ ?_; clear k K) | (refine k ?_; clear k k' k2 A B C) | (refine k' ?_; clear k k' k2 A B C) | (refine k2 ?_; clear k k' k2 A B C) | (refine k ?_; clear k k' A B) | (refine k' ?_; clear k k' A B)))
  (first | refine st_op fun K k => ?_ | refine st_opT fun K k => ?_); simp only [go_sem, reduceIte, Nat.reduceEqDiff, Nat.reduceAdd, Nat.reduceMul, Nat.reduceSub, Nat.reduceLT, Nat.reduceLeDiff, Int.reduceToNat, reduceCtorEq, Int.reduceEq, Int.reduceBEq, Int.reduceLE, Int.reduceLT]; refine callP (sf18b) ?_; refine k _ _ _ _ _ ?_; clear k K
  repeat (first | refine st_end rfl ?_ | ((first | refine st_op fun K k => ?_ | refine st_op0 fun K k => ?_ | refine st_opT fun K k => ?_ | refine st_grd rfl fun A B C k k' k2 => ?_ | refine st_cond fun A B k k' => ?_); simp only [go_sem, reduceIte, Nat.reduceEqDiff, Nat.reduceAdd, Nat.reduceMul, Nat.reduceSub, Nat.reduceLT, Nat.reduceLeDiff, Int.reduceToNat, reduceCtorEq, Int.reduceEq, Int.reduceBEq, Int.reduceLE, Int.reduceLT]; first | (refine k _ _ _ _ _ ?_; clear k K) | (refine k ?_; clear k k' k2 A B C) | (refine k' ?_; clear k k' k2 A B C) | (refine k2 ?_; clear k k' k2 A B C) | (refine k ?_; clear k k' A B) | (refine k' ?_; clear k k' A B)))
  refine Done.mk (.inr rfl) Into.refl ?_ [] 0 ?_ ?_ ?_ ?_
  · rfl
  · rfl
  · simp only [go_sem, reduceIte, Nat.reduceEqDiff, Nat.reduceAdd, Nat.reduceMul, Nat.reduceSub, Nat.reduceLT, Nat.reduceLeDiff, Int.reduceToNat, reduceCtorEq, Int.reduceEq, Int.reduceBEq, Int.reduceLE, Int.reduceLT]
  · trivial
  · rfl
end Go.Proofs.YtjgooecohepkoaaGreatDoor
