/- Contracts of the functions that the statement reaches. -/
import Derived.Test.YtjgooecohepkoaaGreatDoorSAB
set_option linter.unusedVariables false
set_option linter.unusedSimpArgs false
namespace Go.Proofs.YtjgooecohepkoaaGreatDoor
open Go Go.Abs
set_option linter.unusedSimpArgs false
/-- A value without columns and rows. -/
structure FV where
  kind : Int
  s : List UInt8
  dn : Int
  ds : Int
  num : Int
@[go_sem] def FV.cells (v : FV) : List D := [.v (.int .i64 v.kind), .s v.s, .v (.int .i64 v.dn), .v (.int .i64 v.ds), .v (.int .i64 v.num), .v (.slice none 0 0), .v (.slice none 0 0)]
def cellV (kind : Int) (m : Nat) : FV :=
  if m = 4 then ⟨0, [], 0, 0, 0⟩
  else if kind = 2 then (match m with | 0 => ⟨2, [], 1, 0, 0⟩ | 1 => ⟨2, [], -25, 1, 0⟩ | 2 => ⟨2, [], 3, 0, 0⟩ | _ => ⟨2, [], 1000000000000000, 0, 0⟩)
  else if kind = 3 then ⟨3, [], 0, 0, 738000 + m⟩
  else (match m with | 0 => ⟨1, [82, 111, 109, 101], 0, 0, 0⟩ | 1 => ⟨1, [79, 115, 108, 111], 0, 0, 0⟩ | 2 => ⟨1, [66, 101, 114, 103, 101, 110], 0, 0, 0⟩ | _ => ⟨1, [105, 116], 0, 0, 0⟩)
def mod5 (n : Int) : Nat := ((n.tmod 5 + 5).tmod 5).toNat
theorem f13_ok (kind n : Int) : FnOK sys 13 [.v (.int .i64 kind), .v (.int .i64 n)] [] (.agg (cellV kind (mod5 n)).cells) [] := by
  refine FnOK.intro Tryz.f13 (by kernel_rfl) rfl rfl [.cell 4 33] rfl 0 rfl (Nat.le_of_ble_eq_true rfl) rfl rfl fun E hN h0 => W.code (N := 36) [20, 31] hN ?_
  have b1 : -5 < n.tmod 5 ∧ n.tmod 5 < 5 := ⟨Int.lt_tmod_of_pos n (by omega), Int.tmod_lt_of_pos n (by omega)⟩
  have b2 := Int.tmod_nonneg 5 (show 0 ≤ n.tmod 5 + 5 by omega)
  have b3 := Int.tmod_lt_of_pos (n.tmod 5 + 5) (show (0 : Int) < 5 by omega)
  have w1 : IntKind.wrap .i64 (n.tmod 5 + 5) = n.tmod 5 + 5 := wrapTo (by omega)
  have hm : mod5 n = ((n.tmod 5 + 5).tmod 5).toNat := rfl
  have hcase : (n.tmod 5 + 5).tmod 5 = 0 ∨ (n.tmod 5 + 5).tmod 5 = 1 ∨ (n.tmod 5 + 5).tmod 5 = 2 ∨ (n.tmod 5 + 5).tmod 5 = 3 ∨ (n.tmod 5 + 5).tmod 5 = 4 := by omega
  by_cases h2 : kind = 2
  · subst h2
    rcases hcase with h | h | h | h | h <;> rw [h] at hm <;> rw [hm] <;>
    · repeat (first | refine st_end rfl ?_ | ((first | refine st_op fun K k => ?_ | refine st_op0 fun K k => ?_ | refine st_opT fun K k => ?_ | refine st_grd rfl fun A B C k k' k2 => ?_ | refine st_cond fun A B k k' => ?_); simp only [go_sem, reduceIte, Nat.reduceEqDiff, Nat.reduceAdd, Nat.reduceMul, Nat.reduceSub, Nat.reduceLT, Nat.reduceLeDiff, Int.reduceToNat, reduceCtorEq, Int.reduceEq, Int.reduceBEq, Int.reduceLE, Int.reduceLT, w1, h, Int.reduceEq, Int.reduceBEq, Int.reduceLE]; first | (refine k _ _ _ _ _ ?_; clear k K) | (refine k ?_; clear k k' k2 A B C) | (refine k' ?_; clear k k' k2 A B C) | (refine k2 ?_; clear k k' k2 A B C) | (refine k ?_; clear k k' A B) | (refine k' ?_; clear k k' A B)))
      refine Done.mk (.inr rfl) Into.refl rfl [] 0 rfl ?_ trivial rfl
      simp only [go_sem, reduceIte, Nat.reduceEqDiff, Nat.reduceAdd, Nat.reduceMul, Nat.reduceSub, Nat.reduceLT, Nat.reduceLeDiff, Int.reduceToNat, reduceCtorEq, Int.reduceEq, Int.reduceBEq, Int.reduceLE, Int.reduceLT, cellV, FV.cells, Int.toNat, Int.reduceEq]
      try rfl
  · by_cases h3 : kind = 3
    · subst h3
      rcases hcase with h | h | h | h | h <;> rw [h] at hm <;> rw [hm] <;>
      · have w2 : IntKind.wrap .i64 (738000 + (n.tmod 5 + 5).tmod 5) = 738000 + (n.tmod 5 + 5).tmod 5 := wrapTo (by omega)
        rw [h] at w2
        repeat (first | refine st_end rfl ?_ | ((first | refine st_op fun K k => ?_ | refine st_op0 fun K k => ?_ | refine st_opT fun K k => ?_ | refine st_grd rfl fun A B C k k' k2 => ?_ | refine st_cond fun A B k k' => ?_); simp only [go_sem, reduceIte, Nat.reduceEqDiff, Nat.reduceAdd, Nat.reduceMul, Nat.reduceSub, Nat.reduceLT, Nat.reduceLeDiff, Int.reduceToNat, reduceCtorEq, Int.reduceEq, Int.reduceBEq, Int.reduceLE, Int.reduceLT, w1, w2, h, Int.reduceEq, Int.reduceBEq, Int.reduceLE]; first | (refine k _ _ _ _ _ ?_; clear k K) | (refine k ?_; clear k k' k2 A B C) | (refine k' ?_; clear k k' k2 A B C) | (refine k2 ?_; clear k k' k2 A B C) | (refine k ?_; clear k k' A B) | (refine k' ?_; clear k k' A B)))
        refine Done.mk (.inr rfl) Into.refl rfl [] 0 rfl ?_ trivial rfl
        simp only [go_sem, reduceIte, Nat.reduceEqDiff, Nat.reduceAdd, Nat.reduceMul, Nat.reduceSub, Nat.reduceLT, Nat.reduceLeDiff, Int.reduceToNat, reduceCtorEq, Int.reduceEq, Int.reduceBEq, Int.reduceLE, Int.reduceLT, cellV, FV.cells, Int.toNat, Int.reduceEq]
        try rfl
    · have e2 : (kind == 2) = false := by simpa using h2
      have e3 : (kind == 3) = false := by simpa using h3
      rcases hcase with h | h | h | h | h <;> rw [h] at hm <;> rw [hm] <;>
      · repeat (first | refine st_end rfl ?_ | ((first | refine st_op fun K k => ?_ | refine st_op0 fun K k => ?_ | refine st_opT fun K k => ?_ | refine st_grd rfl fun A B C k k' k2 => ?_ | refine st_cond fun A B k k' => ?_); simp only [go_sem, reduceIte, Nat.reduceEqDiff, Nat.reduceAdd, Nat.reduceMul, Nat.reduceSub, Nat.reduceLT, Nat.reduceLeDiff, Int.reduceToNat, reduceCtorEq, Int.reduceEq, Int.reduceBEq, Int.reduceLE, Int.reduceLT, w1, h, e2, e3, Int.reduceEq, Int.reduceBEq, Int.reduceLE]; first | (refine k _ _ _ _ _ ?_; clear k K) | (refine k ?_; clear k k' k2 A B C) | (refine k' ?_; clear k k' k2 A B C) | (refine k2 ?_; clear k k' k2 A B C) | (refine k ?_; clear k k' A B) | (refine k' ?_; clear k k' A B)))
        refine Done.mk (.inr rfl) Into.refl rfl [] 0 rfl ?_ trivial rfl
        simp only [go_sem, reduceIte, Nat.reduceEqDiff, Nat.reduceAdd, Nat.reduceMul, Nat.reduceSub, Nat.reduceLT, Nat.reduceLeDiff, Int.reduceToNat, reduceCtorEq, Int.reduceEq, Int.reduceBEq, Int.reduceLE, Int.reduceLT, cellV, FV.cells, h2, h3, Int.toNat]
        try rfl
end Go.Proofs.YtjgooecohepkoaaGreatDoor
namespace Go.Proofs.YtjgooecohepkoaaGreatDoor
open Go Go.Abs
set_option linter.unusedSimpArgs false
/-- The number that is drawn as the i-th one. -/
theorem nextV_min (L : List Int) (i : Nat) (n : Int) : nextV L (min i L.length) n = nextV L i n := by
  unfold nextV
  by_cases h : i < L.length
  · rw [Nat.min_eq_left (by omega)]
  · rw [Nat.min_eq_right (by omega), List.getElem?_eq_none (Nat.le_refl _), List.getElem?_eq_none (by omega)]
theorem nextK_min (L : List Int) (i : Nat) : nextK L (min i L.length) = min (i + 1) L.length := by
  unfold nextK
  split <;> omega
theorem nextV_pos (L : List Int) (i : Nat) {n : Int} (h : 1 ≤ n) : 0 ≤ nextV L i n ∧ nextV L i n < n := by
  unfold nextV
  split
  · omega
  · rename_i x _
    have q1 := Int.tmod_lt_of_pos x (show 0 < n by omega)
    have q2 := Int.lt_tmod_of_pos x (show 0 < n by omega)
    exact ⟨Int.tmod_nonneg n (by omega), Int.tmod_lt_of_pos _ (by omega)⟩
/-- Next, at the i-th number. -/
theorem f49_at (L : List Int) (i : Nat) (n : Int) (h1 : 1 ≤ n) (h2 : n ≤ 1000000) :
    FnOK sys 49 [.ref 0 0, .v (.int .i64 n)] [(0, numBox L (min i L.length))] (.v (.int .i64 (nextV L i n))) [(0, numBox L (min (i + 1) L.length))] := by
  have := f49_ok L (min i L.length) (Nat.min_le_right _ _) n h1 h2
  rwa [nextV_min, nextK_min] at this

theorem call49 {S : Store} {nx : Nat} {K : KT} (l : Nat) (L : List Int) (i : Nat) {n : Int} (hl : Abs.look S l = some (numBox L (min i L.length))) (h1 : 1 ≤ n) (h2 : n ≤ 1000000)
    (hK : K (.v (.int .i64 (nextV L i n))) (putS (delS S l) l (numBox L (min (i + 1) L.length))) nx [l] [l, l]) : CallRes sys 49 [.ref l 0, .v (.int .i64 n)] S nx K := by
  refine callT (FnOK.ren (args' := [.ref l 0, .v (.int .i64 n)]) [(l, 0)] (f49_at L i n h1 h2) rfl ?_ ?_ ?_) nx ?_ (Nat.le_refl _) ?_ ?_
  · simp [subL, subD, preOf, oldOf, idP, Abs.look]
  · simp [mapS, subO, subL, subD, newOf, numBox, ints]
  · simp [newOf]
  · simp [weakS, subS, subO, subL, subD, newOf, numBox, ints, Abs.look, hl]
  · simp [newIn, subS, Abs.look, subO, subL, subD, numBox, ints]
  · simpa [subS, Abs.look, subO, subL, subD, numBox, ints, namesL, putAll, delAll] using hK
def mMany (L : List Int) : Nat := 1 + (nextV L 0 4).toNat
def kinds4 : List Int := [1, 2, 1, 3]
def mKind (L : List Int) (j : Nat) : Int := if j = 0 then 1 else kinds4.getD ((j + 2 * (nextV L (1 + j) 2).toNat) % 4) 1
def names4 : List (List UInt8) := [[99, 105, 116, 121], [122, 105, 112], [99, 111, 117, 110, 116, 114, 121], [115, 105, 110, 99, 101]]
def mRows (L : List Int) : Nat := (nextV L (1 + mMany L) 7).toNat
def mCell (L : List Int) (r j : Nat) : FV := cellV (mKind L j) (mod5 (nextV L (2 + mMany L + r * mMany L + j) 5))
@[go_sem] def strsD (l : List (List UInt8)) : D := .sl (l.map fun s => [.s s]) 1
@[go_sem] def rowD (r : List FV) : D := .sl (r.map FV.cells) 7
@[go_sem] def rowsD (rs : List (List FV)) : D := .sl (rs.map fun r => [rowD r]) 1
def mRow (L : List Int) (r : Nat) : List FV := (List.range (mMany L)).map (mCell L r)
def mKind0 (L : List Int) (j : Nat) : Int := kinds4.getD ((j + 2 * (nextV L (1 + j) 2).toNat) % 4) 1
theorem names4_at {j : Nat} (h : j < 4) : ([[.s [99, 105, 116, 121]], [.s [122, 105, 112]], [.s [99, 111, 117, 110, 116, 114, 121]], [.s [115, 105, 110, 99, 101]]] : List (List D))[j]? = some [.s (names4.getD j [])] := by
  rcases j with _ | _ | _ | _ | j <;> first | rfl | omega
theorem kinds4_at {j : Nat} (h : j < 4) : ([[.v (.int .i64 1)], [.v (.int .i64 2)], [.v (.int .i64 1)], [.v (.int .i64 3)]] : List (List D))[j]? = some [.v (.int .i64 (kinds4.getD j 1))] := by
  rcases j with _ | _ | _ | _ | j <;> first | rfl | omega
theorem f12_ok (name : List UInt8) (L : List Int) : FnOK sys 12 [.s name, ints L] [] (.agg [.s name, strsD (names4.take (mMany L)), rowsD ((List.range (mRows L)).map (mRow L))]) [] := by
  refine FnOK.intro Tryz.f12 (by kernel_rfl) rfl rfl [.cell 4 28] rfl 0 rfl (Nat.le_of_ble_eq_true rfl) rfl rfl fun E hN h0 => W.code (N := 79) [29, 33, 37, 46, 70, 75] hN ?_
  repeat (first | refine st_end rfl ?_ | ((first | refine st_op fun K k => ?_ | refine st_op0 fun K k => ?_ | refine st_opT fun K k => ?_ | refine st_grd rfl fun A B C k k' k2 => ?_ | refine st_cond fun A B k k' => ?_); simp only [go_sem, reduceIte, Nat.reduceEqDiff, Nat.reduceAdd, Nat.reduceMul, Nat.reduceSub, Nat.reduceLT, Nat.reduceLeDiff, Int.reduceToNat, reduceCtorEq, Int.reduceEq, Int.reduceBEq, Int.reduceLE, Int.reduceLT]; first | (refine k _ _ _ _ _ ?_; clear k K) | (refine k ?_; clear k k' k2 A B C) | (refine k' ?_; clear k k' k2 A B C) | (refine k2 ?_; clear k k' k2 A B C) | (refine k ?_; clear k k' A B) | (refine k' ?_; clear k k' A B)))
  refine st_op fun K k => ?_
  simp only [go_sem, reduceIte, Nat.reduceEqDiff, Nat.reduceAdd, Nat.reduceMul, Nat.reduceSub, Nat.reduceLT, Nat.reduceLeDiff, Int.reduceToNat, reduceCtorEq, Int.reduceEq, Int.reduceBEq, Int.reduceLE, Int.reduceLT]
  refine call49 1 L 0 (by simp only [go_sem, reduceIte, Nat.reduceEqDiff, Nat.reduceAdd, Nat.reduceMul, Nat.reduceSub, Nat.reduceLT, Nat.reduceLeDiff, Int.reduceToNat, reduceCtorEq, Int.reduceEq, Int.reduceBEq, Int.reduceLE, Int.reduceLT]; simp) (by omega) (by omega) ?_
  simp only [go_sem, reduceIte, Nat.reduceEqDiff, Nat.reduceAdd, Nat.reduceMul, Nat.reduceSub, Nat.reduceLT, Nat.reduceLeDiff, Int.reduceToNat, reduceCtorEq, Int.reduceEq, Int.reduceBEq, Int.reduceLE, Int.reduceLT]
  refine k _ _ _ _ _ ?_; clear k K
  obtain ⟨b1, b2⟩ := nextV_pos L 0 (n := 4) (by omega)
  have w1 : IntKind.wrap .i64 (1 + nextV L 0 4) = (mMany L : Int) := wrapTo (by unfold mMany; omega)
  repeat (first | refine st_end rfl ?_ | ((first | refine st_op fun K k => ?_ | refine st_op0 fun K k => ?_ | refine st_opT fun K k => ?_ | refine st_grd rfl fun A B C k k' k2 => ?_ | refine st_cond fun A B k k' => ?_); simp only [go_sem, reduceIte, Nat.reduceEqDiff, Nat.reduceAdd, Nat.reduceMul, Nat.reduceSub, Nat.reduceLT, Nat.reduceLeDiff, Int.reduceToNat, reduceCtorEq, Int.reduceEq, Int.reduceBEq, Int.reduceLE, Int.reduceLT, w1]; first | (refine k _ _ _ _ _ ?_; clear k K) | (refine k ?_; clear k k' k2 A B C) | (refine k' ?_; clear k k' k2 A B C) | (refine k2 ?_; clear k k' k2 A B C) | (refine k ?_; clear k k' A B) | (refine k' ?_; clear k k' A B)))
  have hmany : mMany L ≤ 4 := by unfold mMany; omega
  refine W.loopP (fun j : Nat => ⟨[(4, .ref 0 0), (5, .ref 1 0), (6, .ref 2 0), (7, .v (.int .i64 (mMany L))), (8, .own 4 j), (9, .v (.int .i64 j))],
      [(0, .box [.s [], .v (.slice none 0 0), .v (.slice none 0 0)]), (1, numBox L (min (1 + j) L.length)), (2, .box [.s name, .own 3 j, .v (.slice none 0 0)]),
        (3, .row 9 1 ((names4.take j).map fun s => [.s s])), (4, .row 3 1 ((List.range j).map fun i => [.v (.int .i64 (mKind0 L i))]))], 5, []⟩)
    (fun j => j ≤ mMany L) (fun j => mMany L - j) 0 (Nat.zero_le _)
    ((Into.nilCell 2 1 9 1 rfl rfl).trans ((Into.nilRow 8 3 1 rfl).trans (Into.le ?_ ?_ (Nat.le_refl _) rfl))) fun j hj => W.code (N := 79) [29, 33, 37, 46, 70, 75] hN ?_
  · simp only [go_sem, reduceIte, Nat.reduceEqDiff, Nat.reduceAdd, Nat.reduceMul, Nat.reduceSub, Nat.reduceLT, Nat.reduceLeDiff, Int.reduceToNat, reduceCtorEq, Int.reduceEq, Int.reduceBEq, Int.reduceLE, Int.reduceLT]
    exact LeD.refl _
  · simp only [go_sem, reduceIte, Nat.reduceEqDiff, Nat.reduceAdd, Nat.reduceMul, Nat.reduceSub, Nat.reduceLT, Nat.reduceLeDiff, Int.reduceToNat, reduceCtorEq, Int.reduceEq, Int.reduceBEq, Int.reduceLE, Int.reduceLT]
    exact LeO.refl _
  repeat (first | refine st_end rfl ?_ | ((first | refine st_op fun K k => ?_ | refine st_op0 fun K k => ?_ | refine st_opT fun K k => ?_ | refine st_grd rfl fun A B C k k' k2 => ?_ | refine st_cond fun A B k k' => ?_); simp only [go_sem, reduceIte, Nat.reduceEqDiff, Nat.reduceAdd, Nat.reduceMul, Nat.reduceSub, Nat.reduceLT, Nat.reduceLeDiff, Int.reduceToNat, reduceCtorEq, Int.reduceEq, Int.reduceBEq, Int.reduceLE, Int.reduceLT]; first | (refine k _ _ _ _ _ ?_; clear k K) | (refine k ?_; clear k k' k2 A B C) | (refine k' ?_; clear k k' k2 A B C) | (refine k2 ?_; clear k k' k2 A B C) | (refine k ?_; clear k k' A B) | (refine k' ?_; clear k k' A B)))
  refine st_cond fun A B a b => ?_; simp only [go_sem, reduceIte, Nat.reduceEqDiff, Nat.reduceAdd, Nat.reduceMul, Nat.reduceSub, Nat.reduceLT, Nat.reduceLeDiff, Int.reduceToNat, reduceCtorEq, Int.reduceEq, Int.reduceBEq, Int.reduceLE, Int.reduceLT]; refine ⟨fun g => a ?_, fun g => b ?_⟩ <;> clear a b A B
  · have hj4 : j < 4 := by omega
    have e1 : (List.take j names4).length = j := by simp [names4]; omega
    have e2 : j + 1 ≤ maxLen := by unfold maxLen; omega
    have e3 : (j + 1) * 16 ≤ 140737488355328 := by omega
    have e4 : (j + 1) * 8 ≤ 140737488355328 := by omega
    repeat (first | refine st_end rfl ?_ | ((first | refine st_op fun K k => ?_ | refine st_op0 fun K k => ?_ | refine st_opT fun K k => ?_ | refine st_grd rfl fun A B C k k' k2 => ?_ | refine st_cond fun A B k k' => ?_); simp only [go_sem, reduceIte, Nat.reduceEqDiff, Nat.reduceAdd, Nat.reduceMul, Nat.reduceSub, Nat.reduceLT, Nat.reduceLeDiff, Int.reduceToNat, reduceCtorEq, Int.reduceEq, Int.reduceBEq, Int.reduceLE, Int.reduceLT, names4_at hj4, e1, e2, e3]; first | (refine k _ _ _ _ _ ?_; clear k K) | (refine k ?_; clear k k' k2 A B C) | (refine k' ?_; clear k k' k2 A B C) | (refine k2 ?_; clear k k' k2 A B C) | (refine k ?_; clear k k' A B) | (refine k' ?_; clear k k' A B)))
    refine st_op fun K k => ?_
    simp only [go_sem, reduceIte, Nat.reduceEqDiff, Nat.reduceAdd, Nat.reduceMul, Nat.reduceSub, Nat.reduceLT, Nat.reduceLeDiff, Int.reduceToNat, reduceCtorEq, Int.reduceEq, Int.reduceBEq, Int.reduceLE, Int.reduceLT]
    refine call49 1 L (1 + j) (by simp only [go_sem, reduceIte, Nat.reduceEqDiff, Nat.reduceAdd, Nat.reduceMul, Nat.reduceSub, Nat.reduceLT, Nat.reduceLeDiff, Int.reduceToNat, reduceCtorEq, Int.reduceEq, Int.reduceBEq, Int.reduceLE, Int.reduceLT]) (by omega) (by omega) ?_
    simp only [go_sem, reduceIte, Nat.reduceEqDiff, Nat.reduceAdd, Nat.reduceMul, Nat.reduceSub, Nat.reduceLT, Nat.reduceLeDiff, Int.reduceToNat, reduceCtorEq, Int.reduceEq, Int.reduceBEq, Int.reduceLE, Int.reduceLT]
    refine k _ _ _ _ _ ?_; clear k K
    obtain ⟨c1, c2⟩ := nextV_pos L (1 + j) (n := 2) (by omega)
    obtain ⟨x, hx⟩ : ∃ x : Nat, nextV L (1 + j) 2 = x := ⟨_, (Int.toNat_of_nonneg c1).symm⟩
    have hx2 : (nextV L (1 + j) 2).toNat = x := by omega
    have w2 : IntKind.wrap .i64 (nextV L (1 + j) 2 * 2) = ((2 * x : Nat) : Int) := wrapTo (by omega)
    have w3 : IntKind.wrap .i64 ((j : Int) + ((2 * x : Nat) : Int)) = ((j + 2 * x : Nat) : Int) := wrapTo (by omega)
    have w4 : ((j + 2 * x : Nat) : Int).tmod 4 = (((j + 2 * x) % 4 : Nat) : Int) := rfl
    have w5 : IntKind.wrap .i64 ((j : Int) + 1) = ((j + 1 : Nat) : Int) := wrapTo (by omega)
    repeat (first | refine st_end rfl ?_ | ((first | refine st_op fun K k => ?_ | refine st_op0 fun K k => ?_ | refine st_opT fun K k => ?_ | refine st_grd rfl fun A B C k k' k2 => ?_ | refine st_cond fun A B k k' => ?_); simp only [go_sem, reduceIte, Nat.reduceEqDiff, Nat.reduceAdd, Nat.reduceMul, Nat.reduceSub, Nat.reduceLT, Nat.reduceLeDiff, Int.reduceToNat, reduceCtorEq, Int.reduceEq, Int.reduceBEq, Int.reduceLE, Int.reduceLT, w2, w3, w4, w5, kinds4_at (Nat.mod_lt (j + 2 * x) (show 0 < 4 by omega)), List.length_range, e2, e4, e1]; first | (refine k _ _ _ _ _ ?_; clear k K) | (refine k ?_; clear k k' k2 A B C) | (refine k' ?_; clear k k' k2 A B C) | (refine k2 ?_; clear k k' k2 A B C) | (refine k ?_; clear k k' A B) | (refine k' ?_; clear k k' A B)))
    refine ⟨j + 1, by omega, by omega, (Into.ren h0 [(0, 0), (1, 1), (2, 2), (3, 5), (4, 6)] 5 rfl).trans (Into.le ?_ ?_ (Nat.le_refl _) rfl)⟩
    · simp only [go_sem, reduceIte, Nat.reduceEqDiff, Nat.reduceAdd, Nat.reduceMul, Nat.reduceSub, Nat.reduceLT, Nat.reduceLeDiff, Int.reduceToNat, reduceCtorEq, Int.reduceEq, Int.reduceBEq, Int.reduceLE, Int.reduceLT, newOf]
    · have e5 : names4.take (j + 1) = names4.take j ++ [names4.getD j []] := by
        rcases j with _ | _ | _ | _ | j <;> first | rfl | omega
      have e6 : mKind0 L j = kinds4.getD ((j + 2 * x) % 4) 1 := by unfold mKind0; rw [hx2]
      simp only [go_sem, reduceIte, Nat.reduceEqDiff, Nat.reduceAdd, Nat.reduceMul, Nat.reduceSub, Nat.reduceLT, Nat.reduceLeDiff, Int.reduceToNat, reduceCtorEq, Int.reduceEq, Int.reduceBEq, Int.reduceLE, Int.reduceLT, newOf, e5, e6, Nat.add_assoc, List.range_succ]
  · obtain rfl : j = mMany L := by omega
    have hm1 : 1 ≤ mMany L := by unfold mMany; omega
    have hget : (List.range (mMany L))[0]? = some 0 := by
      rw [List.getElem?_range (by omega)]
    have hlt0 : (0 : Int) < (mMany L : Int) := by omega
    refine iq Into.refl ?_
    repeat (first | refine st_end rfl ?_ | ((first | refine st_op fun K k => ?_ | refine st_op0 fun K k => ?_ | refine st_opT fun K k => ?_ | refine st_grd rfl fun A B C k k' k2 => ?_ | refine st_cond fun A B k k' => ?_); simp only [go_sem, reduceIte, Nat.reduceEqDiff, Nat.reduceAdd, Nat.reduceMul, Nat.reduceSub, Nat.reduceLT, Nat.reduceLeDiff, Int.reduceToNat, reduceCtorEq, Int.reduceEq, Int.reduceBEq, Int.reduceLE, Int.reduceLT, hget, hlt0]; first | (refine k _ _ _ _ _ ?_; clear k K) | (refine k ?_; clear k k' k2 A B C) | (refine k' ?_; clear k k' k2 A B C) | (refine k2 ?_; clear k k' k2 A B C) | (refine k ?_; clear k k' A B) | (refine k' ?_; clear k k' A B)))
    refine st_op fun K k => ?_
    simp only [go_sem, reduceIte, Nat.reduceEqDiff, Nat.reduceAdd, Nat.reduceMul, Nat.reduceSub, Nat.reduceLT, Nat.reduceLeDiff, Int.reduceToNat, reduceCtorEq, Int.reduceEq, Int.reduceBEq, Int.reduceLE, Int.reduceLT]
    refine call49 1 L (1 + mMany L) (by simp only [go_sem, reduceIte, Nat.reduceEqDiff, Nat.reduceAdd, Nat.reduceMul, Nat.reduceSub, Nat.reduceLT, Nat.reduceLeDiff, Int.reduceToNat, reduceCtorEq, Int.reduceEq, Int.reduceBEq, Int.reduceLE, Int.reduceLT]) (by omega) (by omega) ?_
    simp only [go_sem, reduceIte, Nat.reduceEqDiff, Nat.reduceAdd, Nat.reduceMul, Nat.reduceSub, Nat.reduceLT, Nat.reduceLeDiff, Int.reduceToNat, reduceCtorEq, Int.reduceEq, Int.reduceBEq, Int.reduceLE, Int.reduceLT]
    refine k _ _ _ _ _ ?_; clear k K
    obtain ⟨d1, d2⟩ := nextV_pos L (1 + mMany L) (n := 7) (by omega)
    have d3 : nextV L (1 + mMany L) 7 = (mRows L : Int) := (Int.toNat_of_nonneg d1).symm
    repeat (first | refine st_end rfl ?_ | ((first | refine st_op fun K k => ?_ | refine st_op0 fun K k => ?_ | refine st_opT fun K k => ?_ | refine st_grd rfl fun A B C k k' k2 => ?_ | refine st_cond fun A B k k' => ?_); simp only [go_sem, reduceIte, Nat.reduceEqDiff, Nat.reduceAdd, Nat.reduceMul, Nat.reduceSub, Nat.reduceLT, Nat.reduceLeDiff, Int.reduceToNat, reduceCtorEq, Int.reduceEq, Int.reduceBEq, Int.reduceLE, Int.reduceLT, d3]; first | (refine k _ _ _ _ _ ?_; clear k K) | (refine k ?_; clear k k' k2 A B C) | (refine k' ?_; clear k k' k2 A B C) | (refine k2 ?_; clear k k' k2 A B C) | (refine k ?_; clear k k' A B) | (refine k' ?_; clear k k' A B)))
    have hkinds : (List.map (fun i => [D.v (.int .i64 (mKind0 L i))]) (List.range (mMany L))).set 0 [.v (.int .i64 1)] = (List.range (mMany L)).map fun i => [D.v (.int .i64 (mKind L i))] := by
      refine List.ext_getElem? fun q => ?_
      rw [List.getElem?_set]
      by_cases hq : 0 = q
      · subst hq; simp [hget, mKind]; omega
      · rw [if_neg hq]
        simp only [List.getElem?_map]
        by_cases hqm : q < mMany L
        · rw [List.getElem?_range hqm]; simp [mKind, mKind0, Ne.symm hq]
        · rw [List.getElem?_eq_none (by simpa using hqm)]; rfl
    refine W.loopP (fun r : Nat => ⟨[(4, .ref 0 0), (5, .ref 1 0), (6, .ref 2 0), (7, .v (.int .i64 (mMany L))), (8, .sl ((List.range (mMany L)).map fun i => [.v (.int .i64 (mKind L i))]) 1), (10, .v (.int .i64 (mRows L))), (11, .v (.int .i64 r))],
        [(0, .box [.s [], .v (.slice none 0 0), .v (.slice none 0 0)]), (1, numBox L (min (2 + mMany L + r * mMany L) L.length)), (2, .box [.s name, strsD (names4.take (mMany L)), .own 5 r]),
          (5, .row 45 1 ((List.range r).map fun i => [rowD (mRow L i)]))], 6, []⟩)
      (fun r => r ≤ mRows L) (fun r => mRows L - r) 0 (Nat.zero_le _)
      ((Into.nilCell 2 2 45 1 rfl rfl).trans ((Into.frz [3, 4] ?_).trans (Into.le ?_ ?_ (Nat.le_refl _) rfl))) fun r hr => W.code (N := 79) [29, 33, 37, 46, 70, 75] hN ?_
    · simp only [go_sem, reduceIte, Nat.reduceEqDiff, Nat.reduceAdd, Nat.reduceMul, Nat.reduceSub, Nat.reduceLT, Nat.reduceLeDiff, Int.reduceToNat, reduceCtorEq, Int.reduceEq, Int.reduceBEq, Int.reduceLE, Int.reduceLT]
      rw [hkinds]
      constructor
      · intro e he; obtain ⟨q, _, rfl⟩ := List.mem_map.1 he; rfl
      · intro e he; obtain ⟨q, _, rfl⟩ := List.mem_map.1 he; rfl
    · simp only [go_sem, reduceIte, Nat.reduceEqDiff, Nat.reduceAdd, Nat.reduceMul, Nat.reduceSub, Nat.reduceLT, Nat.reduceLeDiff, Int.reduceToNat, reduceCtorEq, Int.reduceEq, Int.reduceBEq, Int.reduceLE, Int.reduceLT, hkinds, List.length_range]
      exact LeD.refl _
    · have f1 : (List.take (mMany L) names4).length = mMany L := by simp [names4]; omega
      simp only [go_sem, reduceIte, Nat.reduceEqDiff, Nat.reduceAdd, Nat.reduceMul, Nat.reduceSub, Nat.reduceLT, Nat.reduceLeDiff, Int.reduceToNat, reduceCtorEq, Int.reduceEq, Int.reduceBEq, Int.reduceLE, Int.reduceLT, f1]
      have f2 : 1 + mMany L + 1 = 2 + mMany L + 0 * mMany L := by omega
      rw [f2]
      exact ⟨LeO.refl _, LeO.refl _⟩
    repeat (first | refine st_end rfl ?_ | ((first | refine st_op fun K k => ?_ | refine st_op0 fun K k => ?_ | refine st_opT fun K k => ?_ | refine st_grd rfl fun A B C k k' k2 => ?_ | refine st_cond fun A B k k' => ?_); simp only [go_sem, reduceIte, Nat.reduceEqDiff, Nat.reduceAdd, Nat.reduceMul, Nat.reduceSub, Nat.reduceLT, Nat.reduceLeDiff, Int.reduceToNat, reduceCtorEq, Int.reduceEq, Int.reduceBEq, Int.reduceLE, Int.reduceLT]; first | (refine k _ _ _ _ _ ?_; clear k K) | (refine k ?_; clear k k' k2 A B C) | (refine k' ?_; clear k k' k2 A B C) | (refine k2 ?_; clear k k' k2 A B C) | (refine k ?_; clear k k' A B) | (refine k' ?_; clear k k' A B)))
    refine st_cond fun A B a b => ?_; simp only [go_sem, reduceIte, Nat.reduceEqDiff, Nat.reduceAdd, Nat.reduceMul, Nat.reduceSub, Nat.reduceLT, Nat.reduceLeDiff, Int.reduceToNat, reduceCtorEq, Int.reduceEq, Int.reduceBEq, Int.reduceLE, Int.reduceLT]; refine ⟨fun g => a ?_, fun g => b ?_⟩ <;> clear a b A B
    · have hr1 : r < mRows L := by omega
      repeat (first | refine st_end rfl ?_ | ((first | refine st_op fun K k => ?_ | refine st_op0 fun K k => ?_ | refine st_opT fun K k => ?_ | refine st_grd rfl fun A B C k k' k2 => ?_ | refine st_cond fun A B k k' => ?_); simp only [go_sem, reduceIte, Nat.reduceEqDiff, Nat.reduceAdd, Nat.reduceMul, Nat.reduceSub, Nat.reduceLT, Nat.reduceLeDiff, Int.reduceToNat, reduceCtorEq, Int.reduceEq, Int.reduceBEq, Int.reduceLE, Int.reduceLT]; first | (refine k _ _ _ _ _ ?_; clear k K) | (refine k ?_; clear k k' k2 A B C) | (refine k' ?_; clear k k' k2 A B C) | (refine k2 ?_; clear k k' k2 A B C) | (refine k ?_; clear k k' A B) | (refine k' ?_; clear k k' A B)))
      refine W.loopP (fun j : Nat => ⟨[(4, .ref 0 0), (5, .ref 1 0), (6, .ref 2 0), (7, .v (.int .i64 (mMany L))), (8, .sl ((List.range (mMany L)).map fun i => [.v (.int .i64 (mKind L i))]) 1), (10, .v (.int .i64 (mRows L))), (11, .v (.int .i64 r)), (12, .own 6 j), (13, .v (.int .i64 j))],
          [(0, .box [.s [], .v (.slice none 0 0), .v (.slice none 0 0)]), (1, numBox L (min (2 + mMany L + r * mMany L + j) L.length)), (2, .box [.s name, strsD (names4.take (mMany L)), .own 5 r]),
            (5, .row 45 1 ((List.range r).map fun i => [rowD (mRow L i)])), (6, .row 33 7 ((List.range j).map fun i => (mCell L r i).cells))], 7, []⟩)
        (fun j => j ≤ mMany L) (fun j => mMany L - j) 0 (Nat.zero_le _)
        ((Into.nilRow 12 33 7 rfl).trans (Into.le ?_ ?_ (Nat.le_refl _) rfl)) fun j hj => W.code (N := 79) [29, 33, 37, 46, 70, 75] hN ?_
      · simp only [go_sem, reduceIte, Nat.reduceEqDiff, Nat.reduceAdd, Nat.reduceMul, Nat.reduceSub, Nat.reduceLT, Nat.reduceLeDiff, Int.reduceToNat, reduceCtorEq, Int.reduceEq, Int.reduceBEq, Int.reduceLE, Int.reduceLT]
        exact LeD.refl _
      · simp only [go_sem, reduceIte, Nat.reduceEqDiff, Nat.reduceAdd, Nat.reduceMul, Nat.reduceSub, Nat.reduceLT, Nat.reduceLeDiff, Int.reduceToNat, reduceCtorEq, Int.reduceEq, Int.reduceBEq, Int.reduceLE, Int.reduceLT]
        exact LeO.refl _
      repeat (first | refine st_end rfl ?_ | ((first | refine st_op fun K k => ?_ | refine st_op0 fun K k => ?_ | refine st_opT fun K k => ?_ | refine st_grd rfl fun A B C k k' k2 => ?_ | refine st_cond fun A B k k' => ?_); simp only [go_sem, reduceIte, Nat.reduceEqDiff, Nat.reduceAdd, Nat.reduceMul, Nat.reduceSub, Nat.reduceLT, Nat.reduceLeDiff, Int.reduceToNat, reduceCtorEq, Int.reduceEq, Int.reduceBEq, Int.reduceLE, Int.reduceLT]; first | (refine k _ _ _ _ _ ?_; clear k K) | (refine k ?_; clear k k' k2 A B C) | (refine k' ?_; clear k k' k2 A B C) | (refine k2 ?_; clear k k' k2 A B C) | (refine k ?_; clear k k' A B) | (refine k' ?_; clear k k' A B)))
      refine st_cond fun A B a b => ?_; simp only [go_sem, reduceIte, Nat.reduceEqDiff, Nat.reduceAdd, Nat.reduceMul, Nat.reduceSub, Nat.reduceLT, Nat.reduceLeDiff, Int.reduceToNat, reduceCtorEq, Int.reduceEq, Int.reduceBEq, Int.reduceLE, Int.reduceLT]; refine ⟨fun g => a ?_, fun g => b ?_⟩ <;> clear a b A B
      · have hjm : j < mMany L := by omega
        have hk : (List.range (mMany L))[j]? = some j := List.getElem?_range hjm
        repeat (first | refine st_end rfl ?_ | ((first | refine st_op fun K k => ?_ | refine st_op0 fun K k => ?_ | refine st_opT fun K k => ?_ | refine st_grd rfl fun A B C k k' k2 => ?_ | refine st_cond fun A B k k' => ?_); simp only [go_sem, reduceIte, Nat.reduceEqDiff, Nat.reduceAdd, Nat.reduceMul, Nat.reduceSub, Nat.reduceLT, Nat.reduceLeDiff, Int.reduceToNat, reduceCtorEq, Int.reduceEq, Int.reduceBEq, Int.reduceLE, Int.reduceLT, hk]; first | (refine k _ _ _ _ _ ?_; clear k K) | (refine k ?_; clear k k' k2 A B C) | (refine k' ?_; clear k k' k2 A B C) | (refine k2 ?_; clear k k' k2 A B C) | (refine k ?_; clear k k' A B) | (refine k' ?_; clear k k' A B)))
        refine st_op fun K k => ?_
        simp only [go_sem, reduceIte, Nat.reduceEqDiff, Nat.reduceAdd, Nat.reduceMul, Nat.reduceSub, Nat.reduceLT, Nat.reduceLeDiff, Int.reduceToNat, reduceCtorEq, Int.reduceEq, Int.reduceBEq, Int.reduceLE, Int.reduceLT]
        refine call49 1 L (2 + mMany L + r * mMany L + j) (by simp only [go_sem, reduceIte, Nat.reduceEqDiff, Nat.reduceAdd, Nat.reduceMul, Nat.reduceSub, Nat.reduceLT, Nat.reduceLeDiff, Int.reduceToNat, reduceCtorEq, Int.reduceEq, Int.reduceBEq, Int.reduceLE, Int.reduceLT]) (by omega) (by omega) ?_
        simp only [go_sem, reduceIte, Nat.reduceEqDiff, Nat.reduceAdd, Nat.reduceMul, Nat.reduceSub, Nat.reduceLT, Nat.reduceLeDiff, Int.reduceToNat, reduceCtorEq, Int.reduceEq, Int.reduceBEq, Int.reduceLE, Int.reduceLT]
        refine k _ _ _ _ _ ?_; clear k K
        refine st_op fun K k => ?_
        simp only [go_sem, reduceIte, Nat.reduceEqDiff, Nat.reduceAdd, Nat.reduceMul, Nat.reduceSub, Nat.reduceLT, Nat.reduceLeDiff, Int.reduceToNat, reduceCtorEq, Int.reduceEq, Int.reduceBEq, Int.reduceLE, Int.reduceLT]
        refine callP (f13_ok _ _) ?_
        refine k _ _ _ _ _ ?_; clear k K
        have e2 : j + 1 ≤ maxLen := by unfold maxLen; omega
        have e3 : (j + 1) * 96 ≤ 140737488355328 := by omega
        have w5 : IntKind.wrap .i64 ((j : Int) + 1) = ((j + 1 : Nat) : Int) := wrapTo (by omega)
        repeat (first | refine st_end rfl ?_ | ((first | refine st_op fun K k => ?_ | refine st_op0 fun K k => ?_ | refine st_opT fun K k => ?_ | refine st_grd rfl fun A B C k k' k2 => ?_ | refine st_cond fun A B k k' => ?_); simp only [go_sem, reduceIte, Nat.reduceEqDiff, Nat.reduceAdd, Nat.reduceMul, Nat.reduceSub, Nat.reduceLT, Nat.reduceLeDiff, Int.reduceToNat, reduceCtorEq, Int.reduceEq, Int.reduceBEq, Int.reduceLE, Int.reduceLT, FV.cells, List.length_range, e2, e3, w5]; first | (refine k _ _ _ _ _ ?_; clear k K) | (refine k ?_; clear k k' k2 A B C) | (refine k' ?_; clear k k' k2 A B C) | (refine k2 ?_; clear k k' k2 A B C) | (refine k ?_; clear k k' A B) | (refine k' ?_; clear k k' A B)))
        refine ⟨j + 1, by omega, by omega, (Into.ren h0 [(0, 0), (1, 1), (2, 2), (5, 5), (6, 7)] 7 rfl).trans (Into.le ?_ ?_ (Nat.le_refl _) rfl)⟩
        · simp only [go_sem, reduceIte, Nat.reduceEqDiff, Nat.reduceAdd, Nat.reduceMul, Nat.reduceSub, Nat.reduceLT, Nat.reduceLeDiff, Int.reduceToNat, reduceCtorEq, Int.reduceEq, Int.reduceBEq, Int.reduceLE, Int.reduceLT, newOf]
        · simp only [go_sem, reduceIte, Nat.reduceEqDiff, Nat.reduceAdd, Nat.reduceMul, Nat.reduceSub, Nat.reduceLT, Nat.reduceLeDiff, Int.reduceToNat, reduceCtorEq, Int.reduceEq, Int.reduceBEq, Int.reduceLE, Int.reduceLT, newOf, List.range_succ, mCell, ← Nat.add_assoc]
      · obtain rfl : j = mMany L := by omega
        refine iq (Into.frz [6] ?_) ?_
        · simp only [go_sem, reduceIte, Nat.reduceEqDiff, Nat.reduceAdd, Nat.reduceMul, Nat.reduceSub, Nat.reduceLT, Nat.reduceLeDiff, Int.reduceToNat, reduceCtorEq, Int.reduceEq, Int.reduceBEq, Int.reduceLE, Int.reduceLT]
          intro e he; obtain ⟨q, _, rfl⟩ := List.mem_map.1 he; rfl
        have e2 : r + 1 ≤ maxLen := by unfold maxLen; omega
        have e3 : (r + 1) * 24 ≤ 140737488355328 := by omega
        have w5 : IntKind.wrap .i64 ((r : Int) + 1) = ((r + 1 : Nat) : Int) := wrapTo (by omega)
        repeat (first | refine st_end rfl ?_ | ((first | refine st_op fun K k => ?_ | refine st_op0 fun K k => ?_ | refine st_opT fun K k => ?_ | refine st_grd rfl fun A B C k k' k2 => ?_ | refine st_cond fun A B k k' => ?_); simp only [go_sem, reduceIte, Nat.reduceEqDiff, Nat.reduceAdd, Nat.reduceMul, Nat.reduceSub, Nat.reduceLT, Nat.reduceLeDiff, Int.reduceToNat, reduceCtorEq, Int.reduceEq, Int.reduceBEq, Int.reduceLE, Int.reduceLT, List.length_range, e2, e3, w5]; first | (refine k _ _ _ _ _ ?_; clear k K) | (refine k ?_; clear k k' k2 A B C) | (refine k' ?_; clear k k' k2 A B C) | (refine k2 ?_; clear k k' k2 A B C) | (refine k ?_; clear k k' A B) | (refine k' ?_; clear k k' A B)))
        have f3 : 2 + mMany L + (r + 1) * mMany L = 2 + mMany L + r * mMany L + mMany L := by rw [Nat.add_mul, Nat.one_mul]; omega
        refine ⟨r + 1, by omega, by omega, (Into.ren h0 [(0, 0), (1, 1), (2, 2), (5, 7)] 6 rfl).trans (Into.le ?_ ?_ (Nat.le_refl _) rfl)⟩
        · simp only [go_sem, reduceIte, Nat.reduceEqDiff, Nat.reduceAdd, Nat.reduceMul, Nat.reduceSub, Nat.reduceLT, Nat.reduceLeDiff, Int.reduceToNat, reduceCtorEq, Int.reduceEq, Int.reduceBEq, Int.reduceLE, Int.reduceLT, newOf]
        · simp only [go_sem, reduceIte, Nat.reduceEqDiff, Nat.reduceAdd, Nat.reduceMul, Nat.reduceSub, Nat.reduceLT, Nat.reduceLeDiff, Int.reduceToNat, reduceCtorEq, Int.reduceEq, Int.reduceBEq, Int.reduceLE, Int.reduceLT, newOf, List.range_succ, f3, mRow]
    · obtain rfl : r = mRows L := by omega
      refine iq (Into.frz [5] ?_) ?_
      · simp only [go_sem, reduceIte, Nat.reduceEqDiff, Nat.reduceAdd, Nat.reduceMul, Nat.reduceSub, Nat.reduceLT, Nat.reduceLeDiff, Int.reduceToNat, reduceCtorEq, Int.reduceEq, Int.reduceBEq, Int.reduceLE, Int.reduceLT]
        intro e he; obtain ⟨q, _, rfl⟩ := List.mem_map.1 he; rfl
      repeat (first | refine st_end rfl ?_ | ((first | refine st_op fun K k => ?_ | refine st_op0 fun K k => ?_ | refine st_opT fun K k => ?_ | refine st_grd rfl fun A B C k k' k2 => ?_ | refine st_cond fun A B k k' => ?_); simp only [go_sem, reduceIte, Nat.reduceEqDiff, Nat.reduceAdd, Nat.reduceMul, Nat.reduceSub, Nat.reduceLT, Nat.reduceLeDiff, Int.reduceToNat, reduceCtorEq, Int.reduceEq, Int.reduceBEq, Int.reduceLE, Int.reduceLT, List.length_range]; first | (refine k _ _ _ _ _ ?_; clear k K) | (refine k ?_; clear k k' k2 A B C) | (refine k' ?_; clear k k' k2 A B C) | (refine k2 ?_; clear k k' k2 A B C) | (refine k ?_; clear k k' A B) | (refine k' ?_; clear k k' A B)))
      refine Done.mk (.inr rfl) Into.refl ?_ [] 0 ?_ ?_ ?_ ?_
      · rfl
      · rfl
      · simp only [go_sem, reduceIte, Nat.reduceEqDiff, Nat.reduceAdd, Nat.reduceMul, Nat.reduceSub, Nat.reduceLT, Nat.reduceLeDiff, Int.reduceToNat, reduceCtorEq, Int.reduceEq, Int.reduceBEq, Int.reduceLE, Int.reduceLT]
      · trivial
      · rfl
end Go.Proofs.YtjgooecohepkoaaGreatDoor
namespace Go.Proofs.YtjgooecohepkoaaGreatDoor
open Go Go.Abs
set_option linter.unusedSimpArgs false
/-- The first place of an element, from k on; -1 if it is not there. -/
def idxFrom {α : Type} [DecidableEq α] : List α → α → Nat → Int
  | [], _, _ => -1
  | y :: r, x, k => if x = y then k else idxFrom r x (k + 1)
theorem drop_at {α : Type} {l : List α} {i : Nat} {x : α} (h : l[i]? = some x) : l.drop i = x :: l.drop (i + 1) := by
  obtain ⟨hlt, rfl⟩ := List.getElem?_eq_some_iff.1 h
  exact List.drop_eq_getElem_cons hlt
theorem getS {α : Type} {l : List α} {i : Nat} (h : i < l.length) : ∃ x, l[i]? = some x := ⟨_, List.getElem?_eq_getElem h⟩
theorem f52_ok (xs : List (List UInt8)) (x : List UInt8) : FnOK sys 52 [strsD xs, .s x] [] (.v (.int .i64 (idxFrom xs x 0))) [] := by
  refine FnOK.intro Tryz.f52 (by kernel_rfl) rfl rfl [.tmp 4] rfl 0 rfl (Nat.le_of_ble_eq_true rfl) rfl rfl fun E hN h0 => W.bound 0 rfl fun hb => W.code (N := 19) [] hN ?_
  simp only [List.length_map, maxLen] at hb
  repeat (first | refine st_end rfl ?_ | ((first | refine st_op fun K k => ?_ | refine st_op0 fun K k => ?_ | refine st_opT fun K k => ?_ | refine st_grd rfl fun A B C k k' k2 => ?_ | refine st_cond fun A B k k' => ?_); simp only [go_sem, reduceIte, Nat.reduceEqDiff, Nat.reduceAdd, Nat.reduceMul, Nat.reduceSub, Nat.reduceLT, Nat.reduceLeDiff, Int.reduceToNat, reduceCtorEq, Int.reduceEq, Int.reduceBEq, Int.reduceLE, Int.reduceLT]; first | (refine k _ _ _ _ _ ?_; clear k K) | (refine k ?_; clear k k' k2 A B C) | (refine k' ?_; clear k k' k2 A B C) | (refine k2 ?_; clear k k' k2 A B C) | (refine k ?_; clear k k' A B) | (refine k' ?_; clear k k' A B)))
  refine W.loopP (fun i : Nat => ⟨[(0, strsD xs), (1, .s x), (7, .v (.int .i64 xs.length)), (8, .v (.int .i64 i))], [], 0, []⟩)
    (fun i => i ≤ xs.length ∧ idxFrom (xs.drop i) x i = idxFrom xs x 0) (fun i => xs.length - i) 0 ⟨by omega, rfl⟩ (Into.le ?_ trivial (Nat.le_refl _) rfl) fun i hi => W.code (N := 19) [] hN ?_
  · simp only [go_sem, reduceIte, Nat.reduceEqDiff, Nat.reduceAdd, Nat.reduceMul, Nat.reduceSub, Nat.reduceLT, Nat.reduceLeDiff, Int.reduceToNat, reduceCtorEq, Int.reduceEq, Int.reduceBEq, Int.reduceLE, Int.reduceLT]
    exact LeD.refl _
  repeat (first | refine st_end rfl ?_ | ((first | refine st_op fun K k => ?_ | refine st_op0 fun K k => ?_ | refine st_opT fun K k => ?_ | refine st_grd rfl fun A B C k k' k2 => ?_ | refine st_cond fun A B k k' => ?_); simp only [go_sem, reduceIte, Nat.reduceEqDiff, Nat.reduceAdd, Nat.reduceMul, Nat.reduceSub, Nat.reduceLT, Nat.reduceLeDiff, Int.reduceToNat, reduceCtorEq, Int.reduceEq, Int.reduceBEq, Int.reduceLE, Int.reduceLT]; first | (refine k _ _ _ _ _ ?_; clear k K) | (refine k ?_; clear k k' k2 A B C) | (refine k' ?_; clear k k' k2 A B C) | (refine k2 ?_; clear k k' k2 A B C) | (refine k ?_; clear k k' A B) | (refine k' ?_; clear k k' A B)))
  refine st_cond fun A B a b => ?_; simp only [go_sem, reduceIte, Nat.reduceEqDiff, Nat.reduceAdd, Nat.reduceMul, Nat.reduceSub, Nat.reduceLT, Nat.reduceLeDiff, Int.reduceToNat, reduceCtorEq, Int.reduceEq, Int.reduceBEq, Int.reduceLE, Int.reduceLT]; refine ⟨fun g => a ?_, fun g => b ?_⟩ <;> clear a b A B
  · obtain ⟨y, hy⟩ := getS (l := xs) (i := i) (by omega)
    have hd := hi.2
    rw [drop_at hy, idxFrom] at hd
    repeat (first | refine st_end rfl ?_ | ((first | refine st_op fun K k => ?_ | refine st_op0 fun K k => ?_ | refine st_opT fun K k => ?_ | refine st_grd rfl fun A B C k k' k2 => ?_ | refine st_cond fun A B k k' => ?_); simp only [go_sem, reduceIte, Nat.reduceEqDiff, Nat.reduceAdd, Nat.reduceMul, Nat.reduceSub, Nat.reduceLT, Nat.reduceLeDiff, Int.reduceToNat, reduceCtorEq, Int.reduceEq, Int.reduceBEq, Int.reduceLE, Int.reduceLT, hy]; first | (refine k _ _ _ _ _ ?_; clear k K) | (refine k ?_; clear k k' k2 A B C) | (refine k' ?_; clear k k' k2 A B C) | (refine k2 ?_; clear k k' k2 A B C) | (refine k ?_; clear k k' A B) | (refine k' ?_; clear k k' A B)))
    refine st_cond fun A B a b => ?_; simp only [go_sem, reduceIte, Nat.reduceEqDiff, Nat.reduceAdd, Nat.reduceMul, Nat.reduceSub, Nat.reduceLT, Nat.reduceLeDiff, Int.reduceToNat, reduceCtorEq, Int.reduceEq, Int.reduceBEq, Int.reduceLE, Int.reduceLT]; refine ⟨fun g => a ?_, fun g => b ?_⟩ <;> clear a b A B
    · repeat (first | refine st_end rfl ?_ | ((first | refine st_op fun K k => ?_ | refine st_op0 fun K k => ?_ | refine st_opT fun K k => ?_ | refine st_grd rfl fun A B C k k' k2 => ?_ | refine st_cond fun A B k k' => ?_); simp only [go_sem, reduceIte, Nat.reduceEqDiff, Nat.reduceAdd, Nat.reduceMul, Nat.reduceSub, Nat.reduceLT, Nat.reduceLeDiff, Int.reduceToNat, reduceCtorEq, Int.reduceEq, Int.reduceBEq, Int.reduceLE, Int.reduceLT]; first | (refine k _ _ _ _ _ ?_; clear k K) | (refine k ?_; clear k k' k2 A B C) | (refine k' ?_; clear k k' k2 A B C) | (refine k2 ?_; clear k k' k2 A B C) | (refine k ?_; clear k k' A B) | (refine k' ?_; clear k k' A B)))
      refine iq Into.refl (Done.mk (.inr rfl) Into.refl rfl [] 0 rfl ?_ trivial rfl)
      simp only [go_sem, reduceIte, Nat.reduceEqDiff, Nat.reduceAdd, Nat.reduceMul, Nat.reduceSub, Nat.reduceLT, Nat.reduceLeDiff, Int.reduceToNat, reduceCtorEq, Int.reduceEq, Int.reduceBEq, Int.reduceLE, Int.reduceLT]
      have e : x = y := by simpa using g
      rw [if_pos e] at hd
      exact hd
    · repeat (first | refine st_end rfl ?_ | ((first | refine st_op fun K k => ?_ | refine st_op0 fun K k => ?_ | refine st_opT fun K k => ?_ | refine st_grd rfl fun A B C k k' k2 => ?_ | refine st_cond fun A B k k' => ?_); simp only [go_sem, reduceIte, Nat.reduceEqDiff, Nat.reduceAdd, Nat.reduceMul, Nat.reduceSub, Nat.reduceLT, Nat.reduceLeDiff, Int.reduceToNat, reduceCtorEq, Int.reduceEq, Int.reduceBEq, Int.reduceLE, Int.reduceLT]; first | (refine k _ _ _ _ _ ?_; clear k K) | (refine k ?_; clear k k' k2 A B C) | (refine k' ?_; clear k k' k2 A B C) | (refine k2 ?_; clear k k' k2 A B C) | (refine k ?_; clear k k' A B) | (refine k' ?_; clear k k' A B)))
      have e : ¬ x = y := by simpa using g
      rw [if_neg e] at hd
      refine ⟨i + 1, ⟨by omega, hd⟩, by omega, Into.le ?_ trivial (Nat.le_refl _) rfl⟩
      simp only [go_sem, reduceIte, Nat.reduceEqDiff, Nat.reduceAdd, Nat.reduceMul, Nat.reduceSub, Nat.reduceLT, Nat.reduceLeDiff, Int.reduceToNat, reduceCtorEq, Int.reduceEq, Int.reduceBEq, Int.reduceLE, Int.reduceLT]
      rw [wrapTo (m := ((i + 1 : Nat) : Int)) (by omega)]
      exact LeD.refl _
  · refine iq Into.refl ?_
    repeat (first | refine st_end rfl ?_ | ((first | refine st_op fun K k => ?_ | refine st_op0 fun K k => ?_ | refine st_opT fun K k => ?_ | refine st_grd rfl fun A B C k k' k2 => ?_ | refine st_cond fun A B k k' => ?_); simp only [go_sem, reduceIte, Nat.reduceEqDiff, Nat.reduceAdd, Nat.reduceMul, Nat.reduceSub, Nat.reduceLT, Nat.reduceLeDiff, Int.reduceToNat, reduceCtorEq, Int.reduceEq, Int.reduceBEq, Int.reduceLE, Int.reduceLT]; first | (refine k _ _ _ _ _ ?_; clear k K) | (refine k ?_; clear k k' k2 A B C) | (refine k' ?_; clear k k' k2 A B C) | (refine k2 ?_; clear k k' k2 A B C) | (refine k ?_; clear k k' A B) | (refine k' ?_; clear k k' A B)))
    refine Done.mk (.inr rfl) Into.refl ?_ [] 0 ?_ ?_ ?_ ?_
    · rfl
    · rfl
    · simp only [go_sem, reduceIte, Nat.reduceEqDiff, Nat.reduceAdd, Nat.reduceMul, Nat.reduceSub, Nat.reduceLT, Nat.reduceLeDiff, Int.reduceToNat, reduceCtorEq, Int.reduceEq, Int.reduceBEq, Int.reduceLE, Int.reduceLT]
      have := hi.2
      rw [List.drop_of_length_le (by omega)] at this
      simpa [idxFrom] using this
    · trivial
    · rfl
theorem f28_ok (xs ys : List (List UInt8)) : FnOK sys 28 [strsD xs, strsD ys] [] (.v (.bool (decide (xs = ys)))) [] := by
  refine FnOK.intro Tryz.f28 (by kernel_rfl) rfl rfl [.tmp 4] rfl 0 rfl (Nat.le_of_ble_eq_true rfl) rfl rfl fun E hN h0 => W.bound 0 rfl fun hb => W.code (N := 26) [] hN ?_
  simp only [List.length_map, maxLen] at hb
  repeat (first | refine st_end rfl ?_ | ((first | refine st_op fun K k => ?_ | refine st_op0 fun K k => ?_ | refine st_opT fun K k => ?_ | refine st_grd rfl fun A B C k k' k2 => ?_ | refine st_cond fun A B k k' => ?_); simp only [go_sem, reduceIte, Nat.reduceEqDiff, Nat.reduceAdd, Nat.reduceMul, Nat.reduceSub, Nat.reduceLT, Nat.reduceLeDiff, Int.reduceToNat, reduceCtorEq, Int.reduceEq, Int.reduceBEq, Int.reduceLE, Int.reduceLT]; first | (refine k _ _ _ _ _ ?_; clear k K) | (refine k ?_; clear k k' k2 A B C) | (refine k' ?_; clear k k' k2 A B C) | (refine k2 ?_; clear k k' k2 A B C) | (refine k ?_; clear k k' A B) | (refine k' ?_; clear k k' A B)))
  refine st_cond fun A B a b => ?_; simp only [go_sem, reduceIte, Nat.reduceEqDiff, Nat.reduceAdd, Nat.reduceMul, Nat.reduceSub, Nat.reduceLT, Nat.reduceLeDiff, Int.reduceToNat, reduceCtorEq, Int.reduceEq, Int.reduceBEq, Int.reduceLE, Int.reduceLT]; refine ⟨fun g => a ?_, fun g => b ?_⟩ <;> clear a b A B
  · repeat (first | refine st_end rfl ?_ | ((first | refine st_op fun K k => ?_ | refine st_op0 fun K k => ?_ | refine st_opT fun K k => ?_ | refine st_grd rfl fun A B C k k' k2 => ?_ | refine st_cond fun A B k k' => ?_); simp only [go_sem, reduceIte, Nat.reduceEqDiff, Nat.reduceAdd, Nat.reduceMul, Nat.reduceSub, Nat.reduceLT, Nat.reduceLeDiff, Int.reduceToNat, reduceCtorEq, Int.reduceEq, Int.reduceBEq, Int.reduceLE, Int.reduceLT]; first | (refine k _ _ _ _ _ ?_; clear k K) | (refine k ?_; clear k k' k2 A B C) | (refine k' ?_; clear k k' k2 A B C) | (refine k2 ?_; clear k k' k2 A B C) | (refine k ?_; clear k k' A B) | (refine k' ?_; clear k k' A B)))
    refine Done.mk (.inr rfl) Into.refl rfl [] 0 rfl ?_ trivial rfl
    simp only [go_sem, reduceIte, Nat.reduceEqDiff, Nat.reduceAdd, Nat.reduceMul, Nat.reduceSub, Nat.reduceLT, Nat.reduceLeDiff, Int.reduceToNat, reduceCtorEq, Int.reduceEq, Int.reduceBEq, Int.reduceLE, Int.reduceLT]
    have h : ¬ (xs.length : Int) = ys.length := by simpa using g
    have h2 : ¬ xs = ys := by rintro rfl; exact h rfl
    simp [h2]
  · have hl : (xs.length : Int) = ys.length := by simpa using g
    repeat (first | refine st_end rfl ?_ | ((first | refine st_op fun K k => ?_ | refine st_op0 fun K k => ?_ | refine st_opT fun K k => ?_ | refine st_grd rfl fun A B C k k' k2 => ?_ | refine st_cond fun A B k k' => ?_); simp only [go_sem, reduceIte, Nat.reduceEqDiff, Nat.reduceAdd, Nat.reduceMul, Nat.reduceSub, Nat.reduceLT, Nat.reduceLeDiff, Int.reduceToNat, reduceCtorEq, Int.reduceEq, Int.reduceBEq, Int.reduceLE, Int.reduceLT]; first | (refine k _ _ _ _ _ ?_; clear k K) | (refine k ?_; clear k k' k2 A B C) | (refine k' ?_; clear k k' k2 A B C) | (refine k2 ?_; clear k k' k2 A B C) | (refine k ?_; clear k k' A B) | (refine k' ?_; clear k k' A B)))
    refine W.loopP (fun i : Nat => ⟨[(0, strsD xs), (1, strsD ys), (5, .v (.int .i64 i))], [], 0, []⟩)
      (fun i => i ≤ xs.length ∧ ∀ j, j < i → xs[j]? = ys[j]?) (fun i => xs.length - i) 0 ⟨by omega, by omega⟩ (Into.le ?_ trivial (Nat.le_refl _) rfl) fun i hi => W.code (N := 26) [] hN ?_
    · simp only [go_sem, reduceIte, Nat.reduceEqDiff, Nat.reduceAdd, Nat.reduceMul, Nat.reduceSub, Nat.reduceLT, Nat.reduceLeDiff, Int.reduceToNat, reduceCtorEq, Int.reduceEq, Int.reduceBEq, Int.reduceLE, Int.reduceLT]
      exact LeD.refl _
    repeat (first | refine st_end rfl ?_ | ((first | refine st_op fun K k => ?_ | refine st_op0 fun K k => ?_ | refine st_opT fun K k => ?_ | refine st_grd rfl fun A B C k k' k2 => ?_ | refine st_cond fun A B k k' => ?_); simp only [go_sem, reduceIte, Nat.reduceEqDiff, Nat.reduceAdd, Nat.reduceMul, Nat.reduceSub, Nat.reduceLT, Nat.reduceLeDiff, Int.reduceToNat, reduceCtorEq, Int.reduceEq, Int.reduceBEq, Int.reduceLE, Int.reduceLT]; first | (refine k _ _ _ _ _ ?_; clear k K) | (refine k ?_; clear k k' k2 A B C) | (refine k' ?_; clear k k' k2 A B C) | (refine k2 ?_; clear k k' k2 A B C) | (refine k ?_; clear k k' A B) | (refine k' ?_; clear k k' A B)))
    refine st_cond fun A B a b => ?_; simp only [go_sem, reduceIte, Nat.reduceEqDiff, Nat.reduceAdd, Nat.reduceMul, Nat.reduceSub, Nat.reduceLT, Nat.reduceLeDiff, Int.reduceToNat, reduceCtorEq, Int.reduceEq, Int.reduceBEq, Int.reduceLE, Int.reduceLT]; refine ⟨fun g => a ?_, fun g => b ?_⟩ <;> clear a b A B
    · obtain ⟨x, hx⟩ := getS (l := xs) (i := i) (by omega)
      obtain ⟨y, hy⟩ := getS (l := ys) (i := i) (by omega)
      repeat (first | refine st_end rfl ?_ | ((first | refine st_op fun K k => ?_ | refine st_op0 fun K k => ?_ | refine st_opT fun K k => ?_ | refine st_grd rfl fun A B C k k' k2 => ?_ | refine st_cond fun A B k k' => ?_); simp only [go_sem, reduceIte, Nat.reduceEqDiff, Nat.reduceAdd, Nat.reduceMul, Nat.reduceSub, Nat.reduceLT, Nat.reduceLeDiff, Int.reduceToNat, reduceCtorEq, Int.reduceEq, Int.reduceBEq, Int.reduceLE, Int.reduceLT, hx, hy]; first | (refine k _ _ _ _ _ ?_; clear k K) | (refine k ?_; clear k k' k2 A B C) | (refine k' ?_; clear k k' k2 A B C) | (refine k2 ?_; clear k k' k2 A B C) | (refine k ?_; clear k k' A B) | (refine k' ?_; clear k k' A B)))
      refine st_cond fun A B a b => ?_; simp only [go_sem, reduceIte, Nat.reduceEqDiff, Nat.reduceAdd, Nat.reduceMul, Nat.reduceSub, Nat.reduceLT, Nat.reduceLeDiff, Int.reduceToNat, reduceCtorEq, Int.reduceEq, Int.reduceBEq, Int.reduceLE, Int.reduceLT]; refine ⟨fun g => a ?_, fun g => b ?_⟩ <;> clear a b A B
      · repeat (first | refine st_end rfl ?_ | ((first | refine st_op fun K k => ?_ | refine st_op0 fun K k => ?_ | refine st_opT fun K k => ?_ | refine st_grd rfl fun A B C k k' k2 => ?_ | refine st_cond fun A B k k' => ?_); simp only [go_sem, reduceIte, Nat.reduceEqDiff, Nat.reduceAdd, Nat.reduceMul, Nat.reduceSub, Nat.reduceLT, Nat.reduceLeDiff, Int.reduceToNat, reduceCtorEq, Int.reduceEq, Int.reduceBEq, Int.reduceLE, Int.reduceLT]; first | (refine k _ _ _ _ _ ?_; clear k K) | (refine k ?_; clear k k' k2 A B C) | (refine k' ?_; clear k k' k2 A B C) | (refine k2 ?_; clear k k' k2 A B C) | (refine k ?_; clear k k' A B) | (refine k' ?_; clear k k' A B)))
        refine iq Into.refl (Done.mk (.inr rfl) Into.refl rfl [] 0 rfl ?_ trivial rfl)
        simp only [go_sem, reduceIte, Nat.reduceEqDiff, Nat.reduceAdd, Nat.reduceMul, Nat.reduceSub, Nat.reduceLT, Nat.reduceLeDiff, Int.reduceToNat, reduceCtorEq, Int.reduceEq, Int.reduceBEq, Int.reduceLE, Int.reduceLT]
        have e : ¬ x = y := by simpa using g
        have e2 : ¬ xs = ys := by rintro rfl; rw [hx] at hy; cases hy; exact e rfl
        simp [e2]
      · repeat (first | refine st_end rfl ?_ | ((first | refine st_op fun K k => ?_ | refine st_op0 fun K k => ?_ | refine st_opT fun K k => ?_ | refine st_grd rfl fun A B C k k' k2 => ?_ | refine st_cond fun A B k k' => ?_); simp only [go_sem, reduceIte, Nat.reduceEqDiff, Nat.reduceAdd, Nat.reduceMul, Nat.reduceSub, Nat.reduceLT, Nat.reduceLeDiff, Int.reduceToNat, reduceCtorEq, Int.reduceEq, Int.reduceBEq, Int.reduceLE, Int.reduceLT]; first | (refine k _ _ _ _ _ ?_; clear k K) | (refine k ?_; clear k k' k2 A B C) | (refine k' ?_; clear k k' k2 A B C) | (refine k2 ?_; clear k k' k2 A B C) | (refine k ?_; clear k k' A B) | (refine k' ?_; clear k k' A B)))
        have e : x = y := by simpa using g
        refine ⟨i + 1, ⟨by omega, fun j hj => ?_⟩, by omega, Into.le ?_ trivial (Nat.le_refl _) rfl⟩
        · by_cases hji : j = i
          · rw [hji, hx, hy, e]
          · exact hi.2 j (by omega)
        simp only [go_sem, reduceIte, Nat.reduceEqDiff, Nat.reduceAdd, Nat.reduceMul, Nat.reduceSub, Nat.reduceLT, Nat.reduceLeDiff, Int.reduceToNat, reduceCtorEq, Int.reduceEq, Int.reduceBEq, Int.reduceLE, Int.reduceLT]
        rw [wrapTo (m := ((i + 1 : Nat) : Int)) (by omega)]
        exact LeD.refl _
    · refine iq Into.refl ?_
      repeat (first | refine st_end rfl ?_ | ((first | refine st_op fun K k => ?_ | refine st_op0 fun K k => ?_ | refine st_opT fun K k => ?_ | refine st_grd rfl fun A B C k k' k2 => ?_ | refine st_cond fun A B k k' => ?_); simp only [go_sem, reduceIte, Nat.reduceEqDiff, Nat.reduceAdd, Nat.reduceMul, Nat.reduceSub, Nat.reduceLT, Nat.reduceLeDiff, Int.reduceToNat, reduceCtorEq, Int.reduceEq, Int.reduceBEq, Int.reduceLE, Int.reduceLT]; first | (refine k _ _ _ _ _ ?_; clear k K) | (refine k ?_; clear k k' k2 A B C) | (refine k' ?_; clear k k' k2 A B C) | (refine k2 ?_; clear k k' k2 A B C) | (refine k ?_; clear k k' A B) | (refine k' ?_; clear k k' A B)))
      refine Done.mk (.inr rfl) Into.refl ?_ [] 0 ?_ ?_ ?_ ?_
      · rfl
      · rfl
      · simp only [go_sem, reduceIte, Nat.reduceEqDiff, Nat.reduceAdd, Nat.reduceMul, Nat.reduceSub, Nat.reduceLT, Nat.reduceLeDiff, Int.reduceToNat, reduceCtorEq, Int.reduceEq, Int.reduceBEq, Int.reduceLE, Int.reduceLT]
        have e : xs = ys := by
          refine List.ext_getElem? fun j => ?_
          by_cases hj : j < xs.length
          · exact hi.2 j (by omega)
          · rw [List.getElem?_eq_none (by omega), List.getElem?_eq_none (by omega)]
        simp [e]
      · trivial
      · rfl
end Go.Proofs.YtjgooecohepkoaaGreatDoor
