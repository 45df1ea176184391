/- Contracts of the functions that the statement reaches. -/
import Derived.Test.YtjgooecohepkoaaGreatDoorSAB
set_option linter.unusedVariables false
set_option linter.unusedSimpArgs false
namespace Go.Proofs.YtjgooecohepkoaaGreatDoor
open Go Go.Abs
set_option linter.unusedSimpArgs false
set_option maxHeartbeats 2000000
@[go_sem] def depsD (l : List DP) : D := .sl (l.map DP.cells) 2
def allOf (l : List (List Int)) : List DP := (l.take 8).map dOf
theorem f24_ok (l : List (List Int)) : FnOK sys 24 [.sl (l.map fun x => [ints x]) 1] [] (depsD (allOf l)) [] := by
  refine FnOK.intro Tryz.f24 (by kernel_rfl) rfl rfl [.tmp 2] rfl 0 rfl (Nat.le_of_ble_eq_true rfl) rfl rfl fun E hN h0 => W.bound 0 rfl fun hb => W.code (N := 24) [21] hN ?_
  simp only [List.length_map, maxLen] at hb
  repeat (first | refine st_end rfl ?_ | ((first | refine st1 fun K k => ?_ | refine st2 fun K k => ?_ | refine st3 rfl fun K k => ?_ | refine st4 fun K k => ?_); simp only [go_sem]; refine k _ _ _ _ _ _ ?_; clear k K))
  refine W.loopP (fun i : Nat => ⟨[(0, .sl (l.map fun x => [ints x]) 1), (3, .own 0 i), (4, .v (.int .i64 i))], [(0, .row 52 2 ((l.take i).map fun x => (dOf x).cells))], 1, []⟩)
    (fun i => i ≤ l.length ∧ i ≤ 8) (fun i => l.length - i) 0 ⟨by omega, by omega⟩ ((Into.nilRow 3 52 2 rfl).trans (Into.le ?_ ?_ (Nat.le_refl _) rfl)) fun i hi => W.code (N := 24) [21] hN ?_
  · simp only [go_sem]
    exact LeD.refl _
  · simp only [go_sem]
  by_cases h1 : i < l.length
  · have g1 : (i : Int) < l.length := by omega
    by_cases h2 : i < 8
    · have g2 : (i : Int) < 8 := by omega
      obtain ⟨x, hx⟩ := getS h1
      repeat (first | refine st_end rfl ?_ | ((first | refine st1 fun K k => ?_ | refine st2 fun K k => ?_ | refine st3 rfl fun K k => ?_ | refine st4 fun K k => ?_); simp only [go_sem, g1, g2, decide_true, decide_false, hx]; refine k _ _ _ _ _ _ ?_; clear k K))
      refine st_op fun K k => ?_
      simp only [go_sem]
      refine callP (f25_ok x) ?_
      refine k _ _ _ _ _ ?_; clear k K
      have e1 : (l.take i).length = i := by simp; omega
      have e2 : i + 1 ≤ maxLen := by unfold maxLen; omega
      have e3 : (i + 1) * 40 ≤ 140737488355328 := by omega
      have w5 : IntKind.wrap .i64 ((i : Int) + 1) = ((i + 1 : Nat) : Int) := wrapTo (by omega)
      repeat (first | refine st_end rfl ?_ | ((first | refine st1 fun K k => ?_ | refine st2 fun K k => ?_ | refine st3 rfl fun K k => ?_ | refine st4 fun K k => ?_); simp only [go_sem, DP.cells, e1, e2, e3, w5]; refine k _ _ _ _ _ _ ?_; clear k K))
      refine ⟨i + 1, by omega, by omega, (Into.ren h0 [(0, 1)] 1 rfl).trans (Into.le ?_ ?_ (Nat.le_refl _) rfl)⟩
      · simp only [go_sem, newOf]
      · have e5 : l.take (i + 1) = l.take i ++ [x] := by rw [List.take_add_one, hx]; rfl
        simp only [go_sem, newOf, e5]
    · have g2 : ¬ (i : Int) < 8 := by omega
      repeat (first | refine st_end rfl ?_ | ((first | refine st1 fun K k => ?_ | refine st2 fun K k => ?_ | refine st3 rfl fun K k => ?_ | refine st4 fun K k => ?_); simp only [go_sem, g1, g2, decide_true, decide_false]; refine k _ _ _ _ _ _ ?_; clear k K))
      have e1 : (l.take i).length = i := by simp; omega
      refine iq (Into.frz [0] ?_) ?_
      · simp only [go_sem]
        intro e he; obtain ⟨q, _, rfl⟩ := List.mem_map.1 he; rfl
      repeat (first | refine st_end rfl ?_ | ((first | refine st1 fun K k => ?_ | refine st2 fun K k => ?_ | refine st3 rfl fun K k => ?_ | refine st4 fun K k => ?_); simp only [go_sem, e1]; refine k _ _ _ _ _ _ ?_; clear k K))
      refine Done.mk (.inr rfl) Into.refl ?_ [] 0 ?_ ?_ ?_ ?_
      · rfl
      · rfl
      · have e8 : i = 8 := by omega
        simp only [go_sem, allOf, e8]
      · trivial
      · rfl
  · have g1 : ¬ (i : Int) < l.length := by omega
    repeat (first | refine st_end rfl ?_ | ((first | refine st1 fun K k => ?_ | refine st2 fun K k => ?_ | refine st3 rfl fun K k => ?_ | refine st4 fun K k => ?_); simp only [go_sem, g1, decide_true, decide_false]; refine k _ _ _ _ _ _ ?_; clear k K))
    have e1 : (l.take i).length = i := by simp; omega
    refine iq (Into.frz [0] ?_) ?_
    · simp only [go_sem]
      intro e he; obtain ⟨q, _, rfl⟩ := List.mem_map.1 he; rfl
    repeat (first | refine st_end rfl ?_ | ((first | refine st1 fun K k => ?_ | refine st2 fun K k => ?_ | refine st3 rfl fun K k => ?_ | refine st4 fun K k => ?_); simp only [go_sem, e1]; refine k _ _ _ _ _ _ ?_; clear k K))
    refine Done.mk (.inr rfl) Into.refl ?_ [] 0 ?_ ?_ ?_ ?_
    · rfl
    · rfl
    · have e8 : l.take i = l.take 8 := by rw [List.take_of_length_le (by omega), List.take_of_length_le (by omega)]
      simp only [go_sem, allOf, e8]
    · trivial
    · rfl
theorem f29_ok (xs : List (List UInt8)) (x : List UInt8) : FnOK sys 29 [strsD xs, .s x] [] (strsD (if x ∈ xs then [x] else [])) [] := by
  refine FnOK.intro Tryz.f29 (by kernel_rfl) rfl rfl [.tmp 4] rfl 0 rfl (Nat.le_of_ble_eq_true rfl) rfl rfl fun E hN h0 => W.bound 0 rfl fun hb => W.code (N := 20) [19] hN ?_
  simp only [List.length_map, maxLen] at hb
  repeat (first | refine st_end rfl ?_ | ((first | refine st1 fun K k => ?_ | refine st2 fun K k => ?_ | refine st3 rfl fun K k => ?_ | refine st4 fun K k => ?_); simp only [go_sem]; refine k _ _ _ _ _ _ ?_; clear k K))
  refine W.loopP (fun i : Nat => ⟨[(0, strsD xs), (1, .s x), (5, .v (.int .i64 i))], [], 0, []⟩)
    (fun i => i ≤ xs.length ∧ x ∉ xs.take i) (fun i => xs.length - i) 0 ⟨by omega, by simp⟩ (Into.le ?_ trivial (Nat.le_refl _) rfl) fun i hi => W.code (N := 20) [19] hN ?_
  · simp only [go_sem]
    exact LeD.refl _
  repeat (first | refine st_end rfl ?_ | ((first | refine st1 fun K k => ?_ | refine st2 fun K k => ?_ | refine st3 rfl fun K k => ?_ | refine st4 fun K k => ?_); simp only [go_sem]; refine k _ _ _ _ _ _ ?_; clear k K))
  refine st_cond fun A B a b => ?_; simp only [go_sem]; refine ⟨fun g => a ?_, fun g => b ?_⟩ <;> clear a b A B
  · obtain ⟨y, hy⟩ := getS (l := xs) (i := i) (by omega)
    repeat (first | refine st_end rfl ?_ | ((first | refine st1 fun K k => ?_ | refine st2 fun K k => ?_ | refine st3 rfl fun K k => ?_ | refine st4 fun K k => ?_); simp only [go_sem, hy]; refine k _ _ _ _ _ _ ?_; clear k K))
    refine st_cond fun A B a b => ?_; simp only [go_sem]; refine ⟨fun g => a ?_, fun g => b ?_⟩ <;> clear a b A B
    · repeat (first | refine st_end rfl ?_ | ((first | refine st1 fun K k => ?_ | refine st2 fun K k => ?_ | refine st3 rfl fun K k => ?_ | refine st4 fun K k => ?_); simp only [go_sem]; refine k _ _ _ _ _ _ ?_; clear k K))
      refine iq Into.refl (Done.mk (.inr rfl) Into.refl rfl [] 0 rfl ?_ trivial rfl)
      have e : y = x := by simpa using g
      have e2 : x ∈ xs := by rw [← e]; exact List.mem_of_getElem? hy
      simp only [go_sem, e2]
    · repeat (first | refine st_end rfl ?_ | ((first | refine st1 fun K k => ?_ | refine st2 fun K k => ?_ | refine st3 rfl fun K k => ?_ | refine st4 fun K k => ?_); simp only [go_sem]; refine k _ _ _ _ _ _ ?_; clear k K))
      have e : ¬ y = x := by simpa using g
      refine ⟨i + 1, ⟨by omega, ?_⟩, by omega, Into.le ?_ trivial (Nat.le_refl _) rfl⟩
      · rw [List.take_add_one, hy]
        intro hm
        rcases List.mem_append.1 hm with hm | hm
        · exact hi.2 hm
        · simp at hm; exact e hm.symm
      simp only [go_sem]
      rw [wrapTo (m := ((i + 1 : Nat) : Int)) (by omega)]
      exact LeD.refl _
  · refine iq Into.refl ?_
    repeat (first | refine st_end rfl ?_ | ((first | refine st1 fun K k => ?_ | refine st2 fun K k => ?_ | refine st3 rfl fun K k => ?_ | refine st4 fun K k => ?_); simp only [go_sem]; refine k _ _ _ _ _ _ ?_; clear k K))
    have e2 : x ∉ xs := by
      have := hi.2
      rwa [List.take_of_length_le (by omega)] at this
    refine Done.mk (.inr rfl) (st' := ⟨[(4, .sl [] 1)], [], 0, []⟩) (Into.le ?_ trivial (Nat.le_refl _) rfl) ?_ [] 0 ?_ ?_ ?_ ?_
    · simp only [go_sem]
      exact LeD.nil _
    · rfl
    · rfl
    · simp only [go_sem, e2]
    · trivial
    · rfl
end Go.Proofs.YtjgooecohepkoaaGreatDoor
namespace Go.Proofs.YtjgooecohepkoaaGreatDoor
open Go Go.Abs
set_option linter.unusedSimpArgs false
set_option maxHeartbeats 2000000
/-- Seven cells, each of one. -/
def cells7 (x : List D) : Prop := x.length = 7 ∧ x.all oneD = true
theorem f177_ok (f : Nat) (xs ys : List (List D)) (p : Nat → Bool) (hx : ∀ x ∈ xs, cells7 x) (hy : ∀ y ∈ ys, cells7 y)
    (h : ∀ i x y, xs[i]? = some x → ys[i]? = some y → FnOK sys f [.agg x, .agg y] [] (.v (.bool (p i))) []) :
    FnOK sys 177 [.sl xs 7, .sl ys 7, .v (.func (.func f) #[] #[])] [] (.v (.bool (decide (xs.length = ys.length) && (List.range xs.length).all p))) [] := by
  refine FnOK.intro Tryz.f177 (by kernel_rfl) rfl rfl [.tmp 6] rfl 0 rfl (Nat.le_of_ble_eq_true rfl) rfl rfl fun E hN h0 => W.bound 0 rfl fun hb => W.code (N := 32) [] hN ?_
  simp only [maxLen] at hb
  repeat (first | refine st_end rfl ?_ | ((first | refine st1 fun K k => ?_ | refine st2 fun K k => ?_ | refine st3 rfl fun K k => ?_ | refine st4 fun K k => ?_); simp only [go_sem]; refine k _ _ _ _ _ _ ?_; clear k K))
  refine st_cond fun A B a b => ?_; simp only [go_sem]; refine ⟨fun g => a ?_, fun g => b ?_⟩ <;> clear a b A B
  · repeat (first | refine st_end rfl ?_ | ((first | refine st1 fun K k => ?_ | refine st2 fun K k => ?_ | refine st3 rfl fun K k => ?_ | refine st4 fun K k => ?_); simp only [go_sem]; refine k _ _ _ _ _ _ ?_; clear k K))
    refine Done.mk (.inr rfl) Into.refl rfl [] 0 rfl ?_ trivial rfl
    simp only [go_sem]
    have h : ¬ (xs.length : Int) = ys.length := by simpa using g
    have h2 : ¬ xs.length = ys.length := by omega
    simp [h2]
  · have hl : (xs.length : Int) = ys.length := by simpa using g
    repeat (first | refine st_end rfl ?_ | ((first | refine st1 fun K k => ?_ | refine st2 fun K k => ?_ | refine st3 rfl fun K k => ?_ | refine st4 fun K k => ?_); simp only [go_sem]; refine k _ _ _ _ _ _ ?_; clear k K))
    refine W.loopP (fun i : Nat => ⟨[(0, .sl xs 7), (1, .sl ys 7), (2, .v (.func (.func f) #[] #[])), (15, .sl xs 7), (16, .v (.int .i64 xs.length)), (17, .v (.int .i64 i))], [], 0, []⟩)
      (fun i => i ≤ xs.length ∧ ∀ j, j < i → p j = true) (fun i => xs.length - i) 0 ⟨by omega, by omega⟩ (Into.le ?_ trivial (Nat.le_refl _) rfl) fun i hi => W.code (N := 32) [] hN ?_
    · simp only [go_sem]
      exact LeD.refl _
    repeat (first | refine st_end rfl ?_ | ((first | refine st1 fun K k => ?_ | refine st2 fun K k => ?_ | refine st3 rfl fun K k => ?_ | refine st4 fun K k => ?_); simp only [go_sem]; refine k _ _ _ _ _ _ ?_; clear k K))
    refine st_cond fun A B a b => ?_; simp only [go_sem]; refine ⟨fun g => a ?_, fun g => b ?_⟩ <;> clear a b A B
    · obtain ⟨x, hxi⟩ := getS (l := xs) (i := i) (by omega)
      obtain ⟨y, hyi⟩ := getS (l := ys) (i := i) (by omega)
      obtain ⟨x1, x2⟩ := hx x (List.mem_of_getElem? hxi)
      obtain ⟨y1, y2⟩ := hy y (List.mem_of_getElem? hyi)
      have x3 : x.take 7 = x := List.take_of_length_le (by omega)
      have y3 : y.take 7 = y := List.take_of_length_le (by omega)
      repeat (first | refine st_end rfl ?_ | ((first | refine st1 fun K k => ?_ | refine st2 fun K k => ?_ | refine st3 rfl fun K k => ?_ | refine st4 fun K k => ?_); simp only [go_sem, hxi, hyi, x1, x2, x3, y1, y2, y3, Nat.le_refl]; refine k _ _ _ _ _ _ ?_; clear k K))
      refine st_op fun K k => ?_
      simp only [go_sem]
      refine callP (h i x y hxi hyi) ?_
      refine k _ _ _ _ _ ?_; clear k K
      repeat (first | refine st_end rfl ?_ | ((first | refine st1 fun K k => ?_ | refine st2 fun K k => ?_ | refine st3 rfl fun K k => ?_ | refine st4 fun K k => ?_); simp only [go_sem]; refine k _ _ _ _ _ _ ?_; clear k K))
      refine st_cond fun A B a b => ?_; simp only [go_sem]; refine ⟨fun g => a ?_, fun g => b ?_⟩ <;> clear a b A B
      · repeat (first | refine st_end rfl ?_ | ((first | refine st1 fun K k => ?_ | refine st2 fun K k => ?_ | refine st3 rfl fun K k => ?_ | refine st4 fun K k => ?_); simp only [go_sem]; refine k _ _ _ _ _ _ ?_; clear k K))
        refine iq Into.refl (Done.mk (.inr rfl) Into.refl rfl [] 0 rfl ?_ trivial rfl)
        simp only [go_sem]
        have e : p i = false := by simpa using g
        have e2 : ¬ (List.range xs.length).all p = true := by
          intro ha
          rw [List.all_eq_true] at ha
          have := ha i (List.mem_range.2 (by omega))
          rw [e] at this; cases this
        simp [e2]
      · repeat (first | refine st_end rfl ?_ | ((first | refine st1 fun K k => ?_ | refine st2 fun K k => ?_ | refine st3 rfl fun K k => ?_ | refine st4 fun K k => ?_); simp only [go_sem]; refine k _ _ _ _ _ _ ?_; clear k K))
        have e : p i = true := by simpa using g
        refine ⟨i + 1, ⟨by omega, fun j hj => ?_⟩, by omega, (Into.ren h0 [] 0 rfl).trans (Into.le ?_ trivial (Nat.le_refl _) rfl)⟩
        · by_cases hji : j = i
          · rw [hji, e]
          · exact hi.2 j (by omega)
        simp only [go_sem]
        rw [wrapTo (m := ((i + 1 : Nat) : Int)) (by omega)]
        exact LeD.refl _
    · refine iq Into.refl ?_
      repeat (first | refine st_end rfl ?_ | ((first | refine st1 fun K k => ?_ | refine st2 fun K k => ?_ | refine st3 rfl fun K k => ?_ | refine st4 fun K k => ?_); simp only [go_sem]; refine k _ _ _ _ _ _ ?_; clear k K))
      refine Done.mk (.inr rfl) Into.refl ?_ [] 0 ?_ ?_ ?_ ?_
      · rfl
      · rfl
      · simp only [go_sem]
        have e : (List.range xs.length).all p = true := by
          rw [List.all_eq_true]
          intro j hj
          exact hi.2 j (by have := List.mem_range.1 hj; omega)
        have e2 : xs.length = ys.length := by omega
        have e3 : decide (xs.length = ys.length) = true := by simp [e2]
        rw [e, e3]; rfl
      · trivial
      · rfl
theorem f176_ok (f : Nat) (xs ys : List D) (p : Nat → Bool) 
    (h : ∀ i x y, xs[i]? = some x → ys[i]? = some y → FnOK sys f [x, y] [] (.v (.bool (p i))) []) :
    FnOK sys 176 [.sl (xs.map fun x => [x]) 1, .sl (ys.map fun x => [x]) 1, .v (.func (.func f) #[] #[])] [] (.v (.bool (decide (xs.length = ys.length) && (List.range xs.length).all p))) [] := by
  refine FnOK.intro Tryz.f176 (by kernel_rfl) rfl rfl [.tmp 6] rfl 0 rfl (Nat.le_of_ble_eq_true rfl) rfl rfl fun E hN h0 => W.bound 0 rfl fun hb => W.code (N := 32) [] hN ?_
  simp only [List.length_map, maxLen] at hb
  repeat (first | refine st_end rfl ?_ | ((first | refine st1 fun K k => ?_ | refine st2 fun K k => ?_ | refine st3 rfl fun K k => ?_ | refine st4 fun K k => ?_); simp only [go_sem]; refine k _ _ _ _ _ _ ?_; clear k K))
  refine st_cond fun A B a b => ?_; simp only [go_sem]; refine ⟨fun g => a ?_, fun g => b ?_⟩ <;> clear a b A B
  · repeat (first | refine st_end rfl ?_ | ((first | refine st1 fun K k => ?_ | refine st2 fun K k => ?_ | refine st3 rfl fun K k => ?_ | refine st4 fun K k => ?_); simp only [go_sem]; refine k _ _ _ _ _ _ ?_; clear k K))
    refine Done.mk (.inr rfl) Into.refl rfl [] 0 rfl ?_ trivial rfl
    simp only [go_sem]
    have h : ¬ (xs.length : Int) = ys.length := by simpa using g
    have h2 : ¬ xs.length = ys.length := by omega
    simp [h2]
  · have hl : (xs.length : Int) = ys.length := by simpa using g
    repeat (first | refine st_end rfl ?_ | ((first | refine st1 fun K k => ?_ | refine st2 fun K k => ?_ | refine st3 rfl fun K k => ?_ | refine st4 fun K k => ?_); simp only [go_sem]; refine k _ _ _ _ _ _ ?_; clear k K))
    refine W.loopP (fun i : Nat => ⟨[(0, .sl (xs.map fun x => [x]) 1), (1, .sl (ys.map fun x => [x]) 1), (2, .v (.func (.func f) #[] #[])), (15, .sl (xs.map fun x => [x]) 1), (16, .v (.int .i64 xs.length)), (17, .v (.int .i64 i))], [], 0, []⟩)
      (fun i => i ≤ xs.length ∧ ∀ j, j < i → p j = true) (fun i => xs.length - i) 0 ⟨by omega, by omega⟩ (Into.le ?_ trivial (Nat.le_refl _) rfl) fun i hi => W.code (N := 32) [] hN ?_
    · simp only [go_sem]
      exact LeD.refl _
    repeat (first | refine st_end rfl ?_ | ((first | refine st1 fun K k => ?_ | refine st2 fun K k => ?_ | refine st3 rfl fun K k => ?_ | refine st4 fun K k => ?_); simp only [go_sem]; refine k _ _ _ _ _ _ ?_; clear k K))
    refine st_cond fun A B a b => ?_; simp only [go_sem]; refine ⟨fun g => a ?_, fun g => b ?_⟩ <;> clear a b A B
    · obtain ⟨x, hxi⟩ := getS (l := xs) (i := i) (by omega)
      obtain ⟨y, hyi⟩ := getS (l := ys) (i := i) (by omega)
      repeat (first | refine st_end rfl ?_ | ((first | refine st1 fun K k => ?_ | refine st2 fun K k => ?_ | refine st3 rfl fun K k => ?_ | refine st4 fun K k => ?_); simp only [go_sem, hxi, hyi]; refine k _ _ _ _ _ _ ?_; clear k K))
      refine st_op fun K k => ?_
      simp only [go_sem]
      refine callP (h i x y hxi hyi) ?_
      refine k _ _ _ _ _ ?_; clear k K
      repeat (first | refine st_end rfl ?_ | ((first | refine st1 fun K k => ?_ | refine st2 fun K k => ?_ | refine st3 rfl fun K k => ?_ | refine st4 fun K k => ?_); simp only [go_sem]; refine k _ _ _ _ _ _ ?_; clear k K))
      refine st_cond fun A B a b => ?_; simp only [go_sem]; refine ⟨fun g => a ?_, fun g => b ?_⟩ <;> clear a b A B
      · repeat (first | refine st_end rfl ?_ | ((first | refine st1 fun K k => ?_ | refine st2 fun K k => ?_ | refine st3 rfl fun K k => ?_ | refine st4 fun K k => ?_); simp only [go_sem]; refine k _ _ _ _ _ _ ?_; clear k K))
        refine iq Into.refl (Done.mk (.inr rfl) Into.refl rfl [] 0 rfl ?_ trivial rfl)
        simp only [go_sem]
        have e : p i = false := by simpa using g
        have e2 : ¬ (List.range xs.length).all p = true := by
          intro ha
          rw [List.all_eq_true] at ha
          have := ha i (List.mem_range.2 (by omega))
          rw [e] at this; cases this
        simp [e2]
      · repeat (first | refine st_end rfl ?_ | ((first | refine st1 fun K k => ?_ | refine st2 fun K k => ?_ | refine st3 rfl fun K k => ?_ | refine st4 fun K k => ?_); simp only [go_sem]; refine k _ _ _ _ _ _ ?_; clear k K))
        have e : p i = true := by simpa using g
        refine ⟨i + 1, ⟨by omega, fun j hj => ?_⟩, by omega, Into.le ?_ trivial (Nat.le_refl _) rfl⟩
        · by_cases hji : j = i
          · rw [hji, e]
          · exact hi.2 j (by omega)
        simp only [go_sem]
        rw [wrapTo (m := ((i + 1 : Nat) : Int)) (by omega)]
        exact LeD.refl _
    · refine iq Into.refl ?_
      repeat (first | refine st_end rfl ?_ | ((first | refine st1 fun K k => ?_ | refine st2 fun K k => ?_ | refine st3 rfl fun K k => ?_ | refine st4 fun K k => ?_); simp only [go_sem]; refine k _ _ _ _ _ _ ?_; clear k K))
      refine Done.mk (.inr rfl) Into.refl ?_ [] 0 ?_ ?_ ?_ ?_
      · rfl
      · rfl
      · simp only [go_sem]
        have e : (List.range xs.length).all p = true := by
          rw [List.all_eq_true]
          intro j hj
          exact hi.2 j (by have := List.mem_range.1 hj; omega)
        have e2 : xs.length = ys.length := by omega
        have e3 : decide (xs.length = ys.length) = true := by simp [e2]
        rw [e, e3]; rfl
      · trivial
      · rfl

theorem f118_ok (f : Nat) (a b d : D) (h : FnOK sys 176 [a, b, .v (.func (.func f) #[] #[])] [] d []) (ha : subL (idP []) [a, b, .v (.func (.func f) #[] #[])] = [a, b, .v (.func (.func f) #[] #[])]) (he : subD (newOf []) d = d) : FnOK sys 118 [a, b, .v (.func (.func f) #[] #[])] [] d [] := by
  refine FnOK.intro Tryz.f118 (by kernel_rfl) rfl rfl [.tmp 6] rfl 0 rfl (Nat.le_of_ble_eq_true rfl) ha rfl fun E hN h0 => W.code (N := 11) [] hN ?_
  repeat (first | refine st_end rfl ?_ | ((first | refine st1 fun K k => ?_ | refine st2 fun K k => ?_ | refine st3 rfl fun K k => ?_ | refine st4 fun K k => ?_); simp only [go_sem]; refine k _ _ _ _ _ _ ?_; clear k K))
  refine st_op fun K k => ?_
  simp only [go_sem]
  refine callP h ?_
  refine k _ _ _ _ _ ?_; clear k K
  repeat (first | refine st_end rfl ?_ | ((first | refine st1 fun K k => ?_ | refine st2 fun K k => ?_ | refine st3 rfl fun K k => ?_ | refine st4 fun K k => ?_); simp only [go_sem]; refine k _ _ _ _ _ _ ?_; clear k K))
  refine Done.mk (.inr rfl) Into.refl ?_ [] 0 ?_ ?_ ?_ ?_
  · rfl
  · rfl
  · simp only [go_sem]
    exact he
  · trivial
  · rfl
theorem f120_ok (f : Nat) (a b d : D) (h : FnOK sys 177 [a, b, .v (.func (.func f) #[] #[])] [] d []) (ha : subL (idP []) [a, b, .v (.func (.func f) #[] #[])] = [a, b, .v (.func (.func f) #[] #[])]) (he : subD (newOf []) d = d) : FnOK sys 120 [a, b, .v (.func (.func f) #[] #[])] [] d [] := by
  refine FnOK.intro Tryz.f120 (by kernel_rfl) rfl rfl [.tmp 6] rfl 0 rfl (Nat.le_of_ble_eq_true rfl) ha rfl fun E hN h0 => W.code (N := 11) [] hN ?_
  repeat (first | refine st_end rfl ?_ | ((first | refine st1 fun K k => ?_ | refine st2 fun K k => ?_ | refine st3 rfl fun K k => ?_ | refine st4 fun K k => ?_); simp only [go_sem]; refine k _ _ _ _ _ _ ?_; clear k K))
  refine st_op fun K k => ?_
  simp only [go_sem]
  refine callP h ?_
  refine k _ _ _ _ _ ?_; clear k K
  repeat (first | refine st_end rfl ?_ | ((first | refine st1 fun K k => ?_ | refine st2 fun K k => ?_ | refine st3 rfl fun K k => ?_ | refine st4 fun K k => ?_); simp only [go_sem]; refine k _ _ _ _ _ _ ?_; clear k K))
  refine Done.mk (.inr rfl) Into.refl ?_ [] 0 ?_ ?_ ?_ ?_
  · rfl
  · rfl
  · simp only [go_sem]
    exact he
  · trivial
  · rfl
theorem f119_ok (a b d : D) (h : FnOK sys 120 [a, b, .v (.func (.func 74) #[] #[])] [] d []) (ha : subL (idP []) [a, b] = [a, b]) (he : subD (newOf []) d = d) : FnOK sys 119 [a, b] [] d [] := by
  refine FnOK.intro Tryz.f119 (by kernel_rfl) rfl rfl [.tmp 4] rfl 0 rfl (Nat.le_of_ble_eq_true rfl) ha rfl fun E hN h0 => W.code (N := 8) [] hN ?_
  repeat (first | refine st_end rfl ?_ | ((first | refine st1 fun K k => ?_ | refine st2 fun K k => ?_ | refine st3 rfl fun K k => ?_ | refine st4 fun K k => ?_); simp only [go_sem]; refine k _ _ _ _ _ _ ?_; clear k K))
  refine st_op fun K k => ?_
  simp only [go_sem]
  refine callP h ?_
  refine k _ _ _ _ _ ?_; clear k K
  repeat (first | refine st_end rfl ?_ | ((first | refine st1 fun K k => ?_ | refine st2 fun K k => ?_ | refine st3 rfl fun K k => ?_ | refine st4 fun K k => ?_); simp only [go_sem]; refine k _ _ _ _ _ _ ?_; clear k K))
  refine Done.mk (.inr rfl) Into.refl ?_ [] 0 ?_ ?_ ?_ ?_
  · rfl
  · rfl
  · simp only [go_sem]
    exact he
  · trivial
  · rfl
end Go.Proofs.YtjgooecohepkoaaGreatDoor
namespace Go.Proofs.YtjgooecohepkoaaGreatDoor
open Go Go.Abs
set_option linter.unusedSimpArgs false
set_option maxHeartbeats 2000000
theorem f117_ok (xs ys : List (List UInt8)) : FnOK sys 117 [strsD xs, strsD ys] [] (.v (.bool (decide (xs = ys)))) [] := by
  refine FnOK.intro Tryz.f117 (by kernel_rfl) rfl rfl [.tmp 4] rfl 0 rfl (Nat.le_of_ble_eq_true rfl) rfl rfl fun E hN h0 => W.bound 0 rfl fun hb => W.code (N := 26) [] hN ?_
  simp only [List.length_map, maxLen] at hb
  repeat (first | refine st_end rfl ?_ | ((first | refine st1 fun K k => ?_ | refine st2 fun K k => ?_ | refine st3 rfl fun K k => ?_ | refine st4 fun K k => ?_); simp only [go_sem]; refine k _ _ _ _ _ _ ?_; clear k K))
  refine st_cond fun A B a b => ?_; simp only [go_sem]; refine ⟨fun g => a ?_, fun g => b ?_⟩ <;> clear a b A B
  · repeat (first | refine st_end rfl ?_ | ((first | refine st1 fun K k => ?_ | refine st2 fun K k => ?_ | refine st3 rfl fun K k => ?_ | refine st4 fun K k => ?_); simp only [go_sem]; refine k _ _ _ _ _ _ ?_; clear k K))
    refine Done.mk (.inr rfl) Into.refl rfl [] 0 rfl ?_ trivial rfl
    simp only [go_sem]
    have h : ¬ (xs.length : Int) = ys.length := by simpa using g
    have h2 : ¬ xs = ys := by rintro rfl; exact h rfl
    simp [h2]
  · have hl : (xs.length : Int) = ys.length := by simpa using g
    repeat (first | refine st_end rfl ?_ | ((first | refine st1 fun K k => ?_ | refine st2 fun K k => ?_ | refine st3 rfl fun K k => ?_ | refine st4 fun K k => ?_); simp only [go_sem]; refine k _ _ _ _ _ _ ?_; clear k K))
    refine W.loopP (fun i : Nat => ⟨[(0, strsD xs), (1, strsD ys), (12, .v (.int .i64 xs.length)), (13, .v (.int .i64 i))], [], 0, []⟩)
      (fun i => i ≤ xs.length ∧ ∀ j, j < i → xs[j]? = ys[j]?) (fun i => xs.length - i) 0 ⟨by omega, by omega⟩ (Into.le ?_ trivial (Nat.le_refl _) rfl) fun i hi => W.code (N := 26) [] hN ?_
    · simp only [go_sem]
      exact LeD.refl _
    repeat (first | refine st_end rfl ?_ | ((first | refine st1 fun K k => ?_ | refine st2 fun K k => ?_ | refine st3 rfl fun K k => ?_ | refine st4 fun K k => ?_); simp only [go_sem]; refine k _ _ _ _ _ _ ?_; clear k K))
    refine st_cond fun A B a b => ?_; simp only [go_sem]; refine ⟨fun g => a ?_, fun g => b ?_⟩ <;> clear a b A B
    · obtain ⟨x, hx⟩ := getS (l := xs) (i := i) (by omega)
      obtain ⟨y, hy⟩ := getS (l := ys) (i := i) (by omega)
      repeat (first | refine st_end rfl ?_ | ((first | refine st1 fun K k => ?_ | refine st2 fun K k => ?_ | refine st3 rfl fun K k => ?_ | refine st4 fun K k => ?_); simp only [go_sem, hx, hy]; refine k _ _ _ _ _ _ ?_; clear k K))
      refine st_cond fun A B a b => ?_; simp only [go_sem]; refine ⟨fun g => a ?_, fun g => b ?_⟩ <;> clear a b A B
      · repeat (first | refine st_end rfl ?_ | ((first | refine st1 fun K k => ?_ | refine st2 fun K k => ?_ | refine st3 rfl fun K k => ?_ | refine st4 fun K k => ?_); simp only [go_sem]; refine k _ _ _ _ _ _ ?_; clear k K))
        refine iq Into.refl (Done.mk (.inr rfl) Into.refl rfl [] 0 rfl ?_ trivial rfl)
        simp only [go_sem]
        have e : ¬ x = y := by simpa using g
        have e2 : ¬ xs = ys := by rintro rfl; rw [hx] at hy; cases hy; exact e rfl
        simp [e2]
      · repeat (first | refine st_end rfl ?_ | ((first | refine st1 fun K k => ?_ | refine st2 fun K k => ?_ | refine st3 rfl fun K k => ?_ | refine st4 fun K k => ?_); simp only [go_sem]; refine k _ _ _ _ _ _ ?_; clear k K))
        have e : x = y := by simpa using g
        refine ⟨i + 1, ⟨by omega, fun j hj => ?_⟩, by omega, Into.le ?_ trivial (Nat.le_refl _) rfl⟩
        · by_cases hji : j = i
          · rw [hji, hx, hy, e]
          · exact hi.2 j (by omega)
        simp only [go_sem]
        rw [wrapTo (m := ((i + 1 : Nat) : Int)) (by omega)]
        exact LeD.refl _
    · refine iq Into.refl ?_
      repeat (first | refine st_end rfl ?_ | ((first | refine st1 fun K k => ?_ | refine st2 fun K k => ?_ | refine st3 rfl fun K k => ?_ | refine st4 fun K k => ?_); simp only [go_sem]; refine k _ _ _ _ _ _ ?_; clear k K))
      refine Done.mk (.inr rfl) Into.refl ?_ [] 0 ?_ ?_ ?_ ?_
      · rfl
      · rfl
      · simp only [go_sem]
        have e : xs = ys := by
          refine List.ext_getElem? fun j => ?_
          by_cases hj : j < xs.length
          · exact hi.2 j (by omega)
          · rw [List.getElem?_eq_none (by omega), List.getElem?_eq_none (by omega)]
        simp [e]
      · trivial
      · rfl

/-- A value. -/
inductive Val where
  | mk (kind : Int) (s : List UInt8) (dn ds num : Int) (cols : List (List UInt8)) (rows : List (List Val))
mutual
def encV : Val → List D
  | .mk kind s dn ds num cols rows => [.v (.int .i64 kind), .s s, .v (.int .i64 dn), .v (.int .i64 ds), .v (.int .i64 num), strsD cols, .sl (encRs rows) 1]
def encR : List Val → List (List D)
  | [] => []
  | v :: r => encV v :: encR r
def encRs : List (List Val) → List (List D)
  | [] => []
  | v :: r => [.sl (encR v) 7] :: encRs r
end
theorem encR_map : ∀ (l : List Val), encR l = l.map encV
  | [] => rfl
  | v :: r => by simp [encR, encR_map r]
theorem encRs_map : ∀ (l : List (List Val)), encRs l = (l.map fun r => D.sl (r.map encV) 7).map fun x => [x]
  | [] => rfl
  | v :: r => by simp [encRs, encR_map, encRs_map r]
theorem cells7_enc : ∀ v : Val, cells7 (encV v)
  | .mk .. => by simp [cells7, encV, oneD, strsD, Value.oneCell']
open Classical in
/-- One call of Equal, if what lies within is known. -/
theorem f74_step (k1 : Int) (s1 : List UInt8) (dn1 ds1 n1 : Int) (c1 : List (List UInt8)) (r1 : List (List Val)) (k2 : Int) (s2 : List UInt8) (dn2 ds2 n2 : Int) (c2 : List (List UInt8)) (r2 : List (List Val))
    (h : FnOK sys 118 [.sl (encRs r1) 1, .sl (encRs r2) 1, .v (.func (.func 119) #[] #[])] [] (.v (.bool (decide (r1 = r2)))) []) :
    FnOK sys 74 [.agg (encV (.mk k1 s1 dn1 ds1 n1 c1 r1)), .agg (encV (.mk k2 s2 dn2 ds2 n2 c2 r2))] [] (.v (.bool (decide (k1 = k2 ∧ s1 = s2 ∧ (dn1 = dn2 ∧ ds1 = ds2) ∧ n1 = n2 ∧ c1 = c2 ∧ r1 = r2)))) [] := by
  refine FnOK.intro Tryz.f74 (by kernel_rfl) rfl rfl [.tmp 4] rfl 0 rfl (Nat.le_of_ble_eq_true rfl) rfl rfl fun E hN h0 => W.code (N := 45) [2, 3] hN ?_
  by_cases e1 : k1 = k2
  case neg =>
    have e1' : (k1 == k2) = false := by simpa using e1
    repeat (first | refine st_end rfl ?_ | ((first | refine st1 fun K k => ?_ | refine st2 fun K k => ?_ | refine st3 rfl fun K k => ?_ | refine st4 fun K k => ?_); simp only [go_sem, encV, beq_self_eq_true, Bool.and_false, Bool.false_and, e1']; refine k _ _ _ _ _ _ ?_; clear k K))
    refine Done.mk (.inr rfl) Into.refl ?_ [] 0 ?_ ?_ ?_ ?_
    · rfl
    · rfl
    · simp only [go_sem]
      simp [e1]
    · trivial
    · rfl
  subst e1
  by_cases e2 : s1 = s2
  case neg =>
    have e2' : (s1 == s2) = false := by simpa using e2
    repeat (first | refine st_end rfl ?_ | ((first | refine st1 fun K k => ?_ | refine st2 fun K k => ?_ | refine st3 rfl fun K k => ?_ | refine st4 fun K k => ?_); simp only [go_sem, encV, beq_self_eq_true, Bool.and_false, Bool.false_and, e2']; refine k _ _ _ _ _ _ ?_; clear k K))
    refine Done.mk (.inr rfl) Into.refl ?_ [] 0 ?_ ?_ ?_ ?_
    · rfl
    · rfl
    · simp only [go_sem]
      simp [e2]
    · trivial
    · rfl
  subst e2
  by_cases e3 : dn1 = dn2
  case neg =>
    have e3' : (dn1 == dn2) = false := by simpa using e3
    repeat (first | refine st_end rfl ?_ | ((first | refine st1 fun K k => ?_ | refine st2 fun K k => ?_ | refine st3 rfl fun K k => ?_ | refine st4 fun K k => ?_); simp only [go_sem, encV, beq_self_eq_true, Bool.and_false, Bool.false_and, e3']; refine k _ _ _ _ _ _ ?_; clear k K))
    refine Done.mk (.inr rfl) Into.refl ?_ [] 0 ?_ ?_ ?_ ?_
    · rfl
    · rfl
    · simp only [go_sem]
      simp [e3]
    · trivial
    · rfl
  subst e3
  by_cases e4 : ds1 = ds2
  case neg =>
    have e4' : (ds1 == ds2) = false := by simpa using e4
    repeat (first | refine st_end rfl ?_ | ((first | refine st1 fun K k => ?_ | refine st2 fun K k => ?_ | refine st3 rfl fun K k => ?_ | refine st4 fun K k => ?_); simp only [go_sem, encV, beq_self_eq_true, Bool.and_false, Bool.false_and, e4']; refine k _ _ _ _ _ _ ?_; clear k K))
    refine Done.mk (.inr rfl) Into.refl ?_ [] 0 ?_ ?_ ?_ ?_
    · rfl
    · rfl
    · simp only [go_sem]
      simp [e4]
    · trivial
    · rfl
  subst e4
  by_cases e5 : n1 = n2
  case neg =>
    have e5' : (n1 == n2) = false := by simpa using e5
    repeat (first | refine st_end rfl ?_ | ((first | refine st1 fun K k => ?_ | refine st2 fun K k => ?_ | refine st3 rfl fun K k => ?_ | refine st4 fun K k => ?_); simp only [go_sem, encV, beq_self_eq_true, Bool.and_false, Bool.false_and, e5']; refine k _ _ _ _ _ _ ?_; clear k K))
    refine Done.mk (.inr rfl) Into.refl ?_ [] 0 ?_ ?_ ?_ ?_
    · rfl
    · rfl
    · simp only [go_sem]
      simp [e5]
    · trivial
    · rfl
  subst e5
  repeat (first | refine st_end rfl ?_ | ((first | refine st1 fun K k => ?_ | refine st2 fun K k => ?_ | refine st3 rfl fun K k => ?_ | refine st4 fun K k => ?_); simp only [go_sem, encV, beq_self_eq_true, Bool.and_true]; refine k _ _ _ _ _ _ ?_; clear k K))
  refine st3 rfl fun K k => ?_
  simp only [go_sem]
  refine callP (f117_ok c1 c2) ?_
  refine k _ _ _ _ _ _ ?_; clear k K
  by_cases e6 : c1 = c2
  case neg =>
    repeat (first | refine st_end rfl ?_ | ((first | refine st1 fun K k => ?_ | refine st2 fun K k => ?_ | refine st3 rfl fun K k => ?_ | refine st4 fun K k => ?_); simp only [go_sem, encV, e6, decide_false]; refine k _ _ _ _ _ _ ?_; clear k K))
    refine Done.mk (.inr rfl) Into.refl ?_ [] 0 ?_ ?_ ?_ ?_
    · rfl
    · rfl
    · simp only [go_sem]
      simp [e6]
    · trivial
    · rfl
  subst e6
  repeat (first | refine st_end rfl ?_ | ((first | refine st1 fun K k => ?_ | refine st2 fun K k => ?_ | refine st3 rfl fun K k => ?_ | refine st4 fun K k => ?_); simp only [go_sem, encV, decide_true]; refine k _ _ _ _ _ _ ?_; clear k K))
  refine st3 rfl fun K k => ?_
  simp only [go_sem]
  refine callP h ?_
  refine k _ _ _ _ _ _ ?_; clear k K
  repeat (first | refine st_end rfl ?_ | ((first | refine st1 fun K k => ?_ | refine st2 fun K k => ?_ | refine st3 rfl fun K k => ?_ | refine st4 fun K k => ?_); simp only [go_sem, encV]; refine k _ _ _ _ _ _ ?_; clear k K))
  refine Done.mk (.inr rfl) Into.refl ?_ [] 0 ?_ ?_ ?_ ?_
  · rfl
  · rfl
  · simp only [go_sem]
  · trivial
  · rfl
end Go.Proofs.YtjgooecohepkoaaGreatDoor
namespace Go.Proofs.YtjgooecohepkoaaGreatDoor
open Go Go.Abs
set_option linter.unusedSimpArgs false
set_option maxHeartbeats 2000000
theorem all_eq {α : Type} (xs ys : List α) (i1 : ∀ i : Nat, Decidable (xs[i]? = ys[i]?)) (i2 : Decidable (xs = ys)) : (decide (xs.length = ys.length) && (List.range xs.length).all fun i => @decide _ (i1 i)) = @decide _ i2 := by
  rw [Bool.eq_iff_iff]
  simp only [Bool.and_eq_true, decide_eq_true_eq, List.all_eq_true, List.mem_range]
  constructor
  · rintro ⟨h1, h2⟩
    refine List.ext_getElem? fun i => ?_
    by_cases hi : i < xs.length
    · exact h2 i hi
    · rw [List.getElem?_eq_none (by omega), List.getElem?_eq_none (by omega)]
  · rintro rfl
    exact ⟨rfl, fun _ _ => rfl⟩
open Classical in
theorem f74_ok_at : ∀ (n : Nat) (a b : Val), SizeOf.sizeOf a ≤ n → FnOK sys 74 [.agg (encV a), .agg (encV b)] [] (.v (.bool (decide (a = b)))) []
  | 0, .mk .., _, h => by simp at h
  | n + 1, .mk k1 s1 dn1 ds1 n1 c1 r1, .mk k2 s2 dn2 ds2 n2 c2 r2, hn => by
    have hcell : ∀ row ∈ r1, ∀ v ∈ row, ∀ u, FnOK sys 74 [.agg (encV v), .agg (encV u)] [] (.v (.bool (decide (v = u)))) [] := by
      intro row hrow v hv u
      refine f74_ok_at n v u ?_
      have q1 := List.sizeOf_lt_of_mem hrow
      have q2 := List.sizeOf_lt_of_mem hv
      simp at hn
      omega
    have hrow : ∀ row ∈ r1, ∀ row2, FnOK sys 119 [.sl (row.map encV) 7, .sl (row2.map encV) 7] [] (.v (.bool (decide (row = row2)))) [] := by
      intro row hr row2
      refine f119_ok _ _ _ (f120_ok 74 _ _ _ ?_ rfl rfl) rfl rfl
      have := f177_ok 74 (row.map encV) (row2.map encV) (fun i => decide (row[i]? = row2[i]?)) (by intro x hx; obtain ⟨v, _, rfl⟩ := List.mem_map.1 hx; exact cells7_enc v) (by intro x hx; obtain ⟨v, _, rfl⟩ := List.mem_map.1 hx; exact cells7_enc v) ?_
      · simp only [List.length_map] at this
        rwa [all_eq] at this
      · intro i x y hx hy
        simp only [List.getElem?_map, Option.map_eq_some_iff] at hx hy
        obtain ⟨v, hv, rfl⟩ := hx
        obtain ⟨u, hu, rfl⟩ := hy
        rw [hv, hu]
        have e : decide (some v = some u) = decide (v = u) := by simp
        rw [e]
        exact hcell row hr v (List.mem_of_getElem? hv) u
    have h176 : FnOK sys 176 [.sl (encRs r1) 1, .sl (encRs r2) 1, .v (.func (.func 119) #[] #[])] [] (.v (.bool (decide (r1 = r2)))) [] := by
      rw [encRs_map, encRs_map]
      have := f176_ok 119 (r1.map fun r => D.sl (r.map encV) 7) (r2.map fun r => D.sl (r.map encV) 7) (fun i => decide (r1[i]? = r2[i]?)) ?_
      · simp only [List.length_map] at this
        rwa [all_eq] at this
      · intro i x y hx hy
        simp only [List.getElem?_map, Option.map_eq_some_iff] at hx hy
        obtain ⟨v, hv, rfl⟩ := hx
        obtain ⟨u, hu, rfl⟩ := hy
        rw [hv, hu]
        have e : decide (some v = some u) = decide (v = u) := by simp
        rw [e]
        exact hrow v (List.mem_of_getElem? hv) u
    have := f74_step k1 s1 dn1 ds1 n1 c1 r1 k2 s2 dn2 ds2 n2 c2 r2 (f118_ok 119 _ _ _ h176 rfl rfl)
    have e : decide (k1 = k2 ∧ s1 = s2 ∧ (dn1 = dn2 ∧ ds1 = ds2) ∧ n1 = n2 ∧ c1 = c2 ∧ r1 = r2) = decide (Val.mk k1 s1 dn1 ds1 n1 c1 r1 = Val.mk k2 s2 dn2 ds2 n2 c2 r2) := by
      rw [Bool.eq_iff_iff]
      simp [and_assoc]
    rwa [e] at this
open Classical in
theorem f74_ok (a b : Val) : FnOK sys 74 [.agg (encV a), .agg (encV b)] [] (.v (.bool (decide (a = b)))) [] := f74_ok_at _ a b (Nat.le_refl _)
end Go.Proofs.YtjgooecohepkoaaGreatDoor
namespace Go.Proofs.YtjgooecohepkoaaGreatDoor
open Go Go.Abs
set_option linter.unusedSimpArgs false
set_option maxHeartbeats 2000000
/-- The first place where a test holds, from k on; -1 if there is none. -/
def idxP {α : Type} (p : α → Bool) : List α → Nat → Int
  | [], _ => -1
  | y :: r, k => if p y then k else idxP p r (k + 1)
theorem idxP_any {α : Type} (p : α → Bool) : ∀ (l : List α) (k : Nat), decide (0 ≤ idxP p l k) = l.any p
  | [], _ => by simp [idxP]
  | y :: r, k => by
    cases h : p y with
    | true => simp [idxP, h]
    | false => simp [idxP, h, idxP_any p r (k + 1)]
theorem f116_ok (kf : Nat) (ca : List D) (hca : subL (idP []) ca = ca) (xs : List Int) (p : Int → Bool) (h : ∀ x ∈ xs, FnOK sys kf (.v (.int .i64 x) :: ca) [] (.v (.bool (p x))) []) :
    FnOK sys 116 [ints xs, .fn (.func kf) [] ca] [] (.v (.int .i64 (idxP p xs 0))) [] := by
  refine FnOK.intro Tryz.f116 (by kernel_rfl) rfl rfl [.tmp 4] rfl 0 rfl (Nat.le_of_ble_eq_true rfl) (by simp [subL, subD, ints, hca]) rfl fun E hN h0 => W.bound 0 rfl fun hb => W.code (N := 19) [] hN ?_
  simp only [List.length_map, maxLen] at hb
  repeat (first | refine st_end rfl ?_ | ((first | refine st1 fun K k => ?_ | refine st2 fun K k => ?_ | refine st3 rfl fun K k => ?_ | refine st4 fun K k => ?_); simp only [go_sem]; refine k _ _ _ _ _ _ ?_; clear k K))
  refine W.loopP (fun i : Nat => ⟨[(0, ints xs), (1, .fn (.func kf) [] ca), (7, .v (.int .i64 xs.length)), (8, .v (.int .i64 i))], [], 0, []⟩)
    (fun i => i ≤ xs.length ∧ idxP p (xs.drop i) i = idxP p xs 0) (fun i => xs.length - i) 0 ⟨by omega, rfl⟩ (Into.le ?_ trivial (Nat.le_refl _) rfl) fun i hi => W.code (N := 19) [] hN ?_
  · simp only [go_sem]
    exact LeD.refl _
  repeat (first | refine st_end rfl ?_ | ((first | refine st1 fun K k => ?_ | refine st2 fun K k => ?_ | refine st3 rfl fun K k => ?_ | refine st4 fun K k => ?_); simp only [go_sem]; refine k _ _ _ _ _ _ ?_; clear k K))
  refine st_cond fun A B a b => ?_; simp only [go_sem]; refine ⟨fun g => a ?_, fun g => b ?_⟩ <;> clear a b A B
  · obtain ⟨y, hy⟩ := getS (l := xs) (i := i) (by omega)
    have hd := hi.2
    rw [drop_at hy, idxP] at hd
    repeat (first | refine st_end rfl ?_ | ((first | refine st1 fun K k => ?_ | refine st2 fun K k => ?_ | refine st3 rfl fun K k => ?_ | refine st4 fun K k => ?_); simp only [go_sem, hy]; refine k _ _ _ _ _ _ ?_; clear k K))
    refine st_op fun K k => ?_
    simp only [go_sem]
    refine callP (h y (List.mem_of_getElem? hy)) ?_
    refine k _ _ _ _ _ ?_; clear k K
    repeat (first | refine st_end rfl ?_ | ((first | refine st1 fun K k => ?_ | refine st2 fun K k => ?_ | refine st3 rfl fun K k => ?_ | refine st4 fun K k => ?_); simp only [go_sem]; refine k _ _ _ _ _ _ ?_; clear k K))
    refine st_cond fun A B a b => ?_; simp only [go_sem]; refine ⟨fun g => a ?_, fun g => b ?_⟩ <;> clear a b A B
    · repeat (first | refine st_end rfl ?_ | ((first | refine st1 fun K k => ?_ | refine st2 fun K k => ?_ | refine st3 rfl fun K k => ?_ | refine st4 fun K k => ?_); simp only [go_sem]; refine k _ _ _ _ _ _ ?_; clear k K))
      refine iq Into.refl (Done.mk (.inr rfl) Into.refl rfl [] 0 rfl ?_ trivial rfl)
      simp only [go_sem]
      rw [if_pos g] at hd
      exact hd
    · repeat (first | refine st_end rfl ?_ | ((first | refine st1 fun K k => ?_ | refine st2 fun K k => ?_ | refine st3 rfl fun K k => ?_ | refine st4 fun K k => ?_); simp only [go_sem]; refine k _ _ _ _ _ _ ?_; clear k K))
      rw [if_neg (by rw [g]; simp)] at hd
      refine ⟨i + 1, ⟨by omega, hd⟩, by omega, Into.le ?_ trivial (Nat.le_refl _) rfl⟩
      simp only [go_sem]
      rw [wrapTo (m := ((i + 1 : Nat) : Int)) (by omega)]
      exact LeD.refl _
  · refine iq Into.refl ?_
    repeat (first | refine st_end rfl ?_ | ((first | refine st1 fun K k => ?_ | refine st2 fun K k => ?_ | refine st3 rfl fun K k => ?_ | refine st4 fun K k => ?_); simp only [go_sem]; refine k _ _ _ _ _ _ ?_; clear k K))
    refine Done.mk (.inr rfl) Into.refl ?_ [] 0 ?_ ?_ ?_ ?_
    · rfl
    · rfl
    · simp only [go_sem]
      have := hi.2
      rw [List.drop_of_length_le (by omega)] at this
      simpa [idxP] using this
    · trivial
    · rfl
theorem f72_ok (kf : Nat) (ca : List D) (hca : subL (idP []) ca = ca) (xs : List Int) (p : Int → Bool) (h : ∀ x ∈ xs, FnOK sys kf (.v (.int .i64 x) :: ca) [] (.v (.bool (p x))) []) :
    FnOK sys 72 [ints xs, .fn (.func kf) [] ca] [] (.v (.bool (xs.any p))) [] := by
  refine FnOK.intro Tryz.f72 (by kernel_rfl) rfl rfl [.tmp 4] rfl 0 rfl (Nat.le_of_ble_eq_true rfl) (by simp [subL, subD, ints, hca]) rfl fun E hN h0 => W.code (N := 9) [] hN ?_
  repeat (first | refine st_end rfl ?_ | ((first | refine st1 fun K k => ?_ | refine st2 fun K k => ?_ | refine st3 rfl fun K k => ?_ | refine st4 fun K k => ?_); simp only [go_sem]; refine k _ _ _ _ _ _ ?_; clear k K))
  refine st_op fun K k => ?_
  simp only [go_sem]
  refine callP (f116_ok kf ca hca xs p h) ?_
  refine k _ _ _ _ _ ?_; clear k K
  repeat (first | refine st_end rfl ?_ | ((first | refine st1 fun K k => ?_ | refine st2 fun K k => ?_ | refine st3 rfl fun K k => ?_ | refine st4 fun K k => ?_); simp only [go_sem]; refine k _ _ _ _ _ _ ?_; clear k K))
  refine Done.mk (.inr rfl) Into.refl ?_ [] 0 ?_ ?_ ?_ ?_
  · rfl
  · rfl
  · simp only [go_sem]
    exact idxP_any p xs 0
  · trivial
  · rfl
end Go.Proofs.YtjgooecohepkoaaGreatDoor
namespace Go.Proofs.YtjgooecohepkoaaGreatDoor
open Go Go.Abs
set_option linter.unusedSimpArgs false
set_option maxHeartbeats 2000000
@[go_sem] def rowV (r : List Val) : D := .sl (r.map encV) 7
@[go_sem] def rowsV (rs : List (List Val)) : D := .sl (rs.map fun r => [rowV r]) 1
@[go_sem] def intss (l : List (List Int)) : D := .sl (l.map fun x => [ints x]) 1
theorem f121_ok (kf : Nat) (ca : List D) (hca : subL (idP []) ca = ca) (xs : List (List UInt8)) (p : List UInt8 → Bool) (h : ∀ x ∈ xs, FnOK sys kf (.s x :: ca) [] (.v (.bool (p x))) []) :
    FnOK sys 121 [strsD xs, .fn (.func kf) [] ca] [] (.v (.int .i64 (idxP p xs 0))) [] := by
  refine FnOK.intro Tryz.f121 (by kernel_rfl) rfl rfl [.tmp 4] rfl 0 rfl (Nat.le_of_ble_eq_true rfl) (by simp [subL, subD, strsD, rowsV, rowV, intss, ints, hca]) rfl fun E hN h0 => W.bound 0 rfl fun hb => W.code (N := 19) [] hN ?_
  simp only [List.length_map, maxLen] at hb
  repeat (first | refine st_end rfl ?_ | ((first | refine st1 fun K k => ?_ | refine st2 fun K k => ?_ | refine st3 rfl fun K k => ?_ | refine st4 fun K k => ?_); simp only [go_sem]; refine k _ _ _ _ _ _ ?_; clear k K))
  refine W.loopP (fun i : Nat => ⟨[(0, strsD xs), (1, .fn (.func kf) [] ca), (7, .v (.int .i64 xs.length)), (8, .v (.int .i64 i))], [], 0, []⟩)
    (fun i => i ≤ xs.length ∧ idxP p (xs.drop i) i = idxP p xs 0) (fun i => xs.length - i) 0 ⟨by omega, rfl⟩ (Into.le ?_ trivial (Nat.le_refl _) rfl) fun i hi => W.code (N := 19) [] hN ?_
  · simp only [go_sem]
    exact LeD.refl _
  repeat (first | refine st_end rfl ?_ | ((first | refine st1 fun K k => ?_ | refine st2 fun K k => ?_ | refine st3 rfl fun K k => ?_ | refine st4 fun K k => ?_); simp only [go_sem]; refine k _ _ _ _ _ _ ?_; clear k K))
  refine st_cond fun A B a b => ?_; simp only [go_sem]; refine ⟨fun g => a ?_, fun g => b ?_⟩ <;> clear a b A B
  · obtain ⟨y, hy⟩ := getS (l := xs) (i := i) (by omega)
    have hd := hi.2
    rw [drop_at hy, idxP] at hd
    repeat (first | refine st_end rfl ?_ | ((first | refine st1 fun K k => ?_ | refine st2 fun K k => ?_ | refine st3 rfl fun K k => ?_ | refine st4 fun K k => ?_); simp only [go_sem, hy]; refine k _ _ _ _ _ _ ?_; clear k K))
    refine st_op fun K k => ?_
    simp only [go_sem]
    refine callP (h y (List.mem_of_getElem? hy)) ?_
    refine k _ _ _ _ _ ?_; clear k K
    repeat (first | refine st_end rfl ?_ | ((first | refine st1 fun K k => ?_ | refine st2 fun K k => ?_ | refine st3 rfl fun K k => ?_ | refine st4 fun K k => ?_); simp only [go_sem]; refine k _ _ _ _ _ _ ?_; clear k K))
    refine st_cond fun A B a b => ?_; simp only [go_sem]; refine ⟨fun g => a ?_, fun g => b ?_⟩ <;> clear a b A B
    · repeat (first | refine st_end rfl ?_ | ((first | refine st1 fun K k => ?_ | refine st2 fun K k => ?_ | refine st3 rfl fun K k => ?_ | refine st4 fun K k => ?_); simp only [go_sem]; refine k _ _ _ _ _ _ ?_; clear k K))
      refine iq Into.refl (Done.mk (.inr rfl) Into.refl rfl [] 0 rfl ?_ trivial rfl)
      simp only [go_sem]
      rw [if_pos g] at hd
      exact hd
    · repeat (first | refine st_end rfl ?_ | ((first | refine st1 fun K k => ?_ | refine st2 fun K k => ?_ | refine st3 rfl fun K k => ?_ | refine st4 fun K k => ?_); simp only [go_sem]; refine k _ _ _ _ _ _ ?_; clear k K))
      rw [if_neg (by rw [g]; simp)] at hd
      refine ⟨i + 1, ⟨by omega, hd⟩, by omega, Into.le ?_ trivial (Nat.le_refl _) rfl⟩
      simp only [go_sem]
      rw [wrapTo (m := ((i + 1 : Nat) : Int)) (by omega)]
      exact LeD.refl _
  · refine iq Into.refl ?_
    repeat (first | refine st_end rfl ?_ | ((first | refine st1 fun K k => ?_ | refine st2 fun K k => ?_ | refine st3 rfl fun K k => ?_ | refine st4 fun K k => ?_); simp only [go_sem]; refine k _ _ _ _ _ _ ?_; clear k K))
    refine Done.mk (.inr rfl) Into.refl ?_ [] 0 ?_ ?_ ?_ ?_
    · rfl
    · rfl
    · simp only [go_sem]
      have := hi.2
      rw [List.drop_of_length_le (by omega)] at this
      simpa [idxP] using this
    · trivial
    · rfl
theorem f75_ok (kf : Nat) (ca : List D) (hca : subL (idP []) ca = ca) (xs : List (List UInt8)) (p : List UInt8 → Bool) (h : ∀ x ∈ xs, FnOK sys kf (.s x :: ca) [] (.v (.bool (p x))) []) :
    FnOK sys 75 [strsD xs, .fn (.func kf) [] ca] [] (.v (.bool (xs.any p))) [] := by
  refine FnOK.intro Tryz.f75 (by kernel_rfl) rfl rfl [.tmp 4] rfl 0 rfl (Nat.le_of_ble_eq_true rfl) (by simp [subL, subD, strsD, rowsV, rowV, intss, ints, hca]) rfl fun E hN h0 => W.code (N := 9) [] hN ?_
  repeat (first | refine st_end rfl ?_ | ((first | refine st1 fun K k => ?_ | refine st2 fun K k => ?_ | refine st3 rfl fun K k => ?_ | refine st4 fun K k => ?_); simp only [go_sem]; refine k _ _ _ _ _ _ ?_; clear k K))
  refine st_op fun K k => ?_
  simp only [go_sem]
  refine callP (f121_ok kf ca hca xs p h) ?_
  refine k _ _ _ _ _ ?_; clear k K
  repeat (first | refine st_end rfl ?_ | ((first | refine st1 fun K k => ?_ | refine st2 fun K k => ?_ | refine st3 rfl fun K k => ?_ | refine st4 fun K k => ?_); simp only [go_sem]; refine k _ _ _ _ _ _ ?_; clear k K))
  refine Done.mk (.inr rfl) Into.refl ?_ [] 0 ?_ ?_ ?_ ?_
  · rfl
  · rfl
  · simp only [go_sem]
    exact idxP_any p xs 0
  · trivial
  · rfl
theorem f175_ok (kf : Nat) (ca : List D) (hca : subL (idP []) ca = ca) (xs : List (List Val)) (p : List Val → Bool) (h : ∀ x ∈ xs, FnOK sys kf (rowV x :: ca) [] (.v (.bool (p x))) []) :
    FnOK sys 175 [rowsV xs, .fn (.func kf) [] ca] [] (.v (.int .i64 (idxP p xs 0))) [] := by
  refine FnOK.intro Tryz.f175 (by kernel_rfl) rfl rfl [.tmp 4] rfl 0 rfl (Nat.le_of_ble_eq_true rfl) (by simp [subL, subD, strsD, rowsV, rowV, intss, ints, hca]) rfl fun E hN h0 => W.bound 0 rfl fun hb => W.code (N := 19) [] hN ?_
  simp only [List.length_map, maxLen] at hb
  repeat (first | refine st_end rfl ?_ | ((first | refine st1 fun K k => ?_ | refine st2 fun K k => ?_ | refine st3 rfl fun K k => ?_ | refine st4 fun K k => ?_); simp only [go_sem]; refine k _ _ _ _ _ _ ?_; clear k K))
  refine W.loopP (fun i : Nat => ⟨[(0, rowsV xs), (1, .fn (.func kf) [] ca), (7, .v (.int .i64 xs.length)), (8, .v (.int .i64 i))], [], 0, []⟩)
    (fun i => i ≤ xs.length ∧ idxP p (xs.drop i) i = idxP p xs 0) (fun i => xs.length - i) 0 ⟨by omega, rfl⟩ (Into.le ?_ trivial (Nat.le_refl _) rfl) fun i hi => W.code (N := 19) [] hN ?_
  · simp only [go_sem]
    exact LeD.refl _
  repeat (first | refine st_end rfl ?_ | ((first | refine st1 fun K k => ?_ | refine st2 fun K k => ?_ | refine st3 rfl fun K k => ?_ | refine st4 fun K k => ?_); simp only [go_sem]; refine k _ _ _ _ _ _ ?_; clear k K))
  refine st_cond fun A B a b => ?_; simp only [go_sem]; refine ⟨fun g => a ?_, fun g => b ?_⟩ <;> clear a b A B
  · obtain ⟨y, hy⟩ := getS (l := xs) (i := i) (by omega)
    have hd := hi.2
    rw [drop_at hy, idxP] at hd
    repeat (first | refine st_end rfl ?_ | ((first | refine st1 fun K k => ?_ | refine st2 fun K k => ?_ | refine st3 rfl fun K k => ?_ | refine st4 fun K k => ?_); simp only [go_sem, hy]; refine k _ _ _ _ _ _ ?_; clear k K))
    refine st_op fun K k => ?_
    simp only [go_sem]
    refine callP (h y (List.mem_of_getElem? hy)) ?_
    refine k _ _ _ _ _ ?_; clear k K
    repeat (first | refine st_end rfl ?_ | ((first | refine st1 fun K k => ?_ | refine st2 fun K k => ?_ | refine st3 rfl fun K k => ?_ | refine st4 fun K k => ?_); simp only [go_sem]; refine k _ _ _ _ _ _ ?_; clear k K))
    refine st_cond fun A B a b => ?_; simp only [go_sem]; refine ⟨fun g => a ?_, fun g => b ?_⟩ <;> clear a b A B
    · repeat (first | refine st_end rfl ?_ | ((first | refine st1 fun K k => ?_ | refine st2 fun K k => ?_ | refine st3 rfl fun K k => ?_ | refine st4 fun K k => ?_); simp only [go_sem]; refine k _ _ _ _ _ _ ?_; clear k K))
      refine iq Into.refl (Done.mk (.inr rfl) Into.refl rfl [] 0 rfl ?_ trivial rfl)
      simp only [go_sem]
      rw [if_pos g] at hd
      exact hd
    · repeat (first | refine st_end rfl ?_ | ((first | refine st1 fun K k => ?_ | refine st2 fun K k => ?_ | refine st3 rfl fun K k => ?_ | refine st4 fun K k => ?_); simp only [go_sem]; refine k _ _ _ _ _ _ ?_; clear k K))
      rw [if_neg (by rw [g]; simp)] at hd
      refine ⟨i + 1, ⟨by omega, hd⟩, by omega, Into.le ?_ trivial (Nat.le_refl _) rfl⟩
      simp only [go_sem]
      rw [wrapTo (m := ((i + 1 : Nat) : Int)) (by omega)]
      exact LeD.refl _
  · refine iq Into.refl ?_
    repeat (first | refine st_end rfl ?_ | ((first | refine st1 fun K k => ?_ | refine st2 fun K k => ?_ | refine st3 rfl fun K k => ?_ | refine st4 fun K k => ?_); simp only [go_sem]; refine k _ _ _ _ _ _ ?_; clear k K))
    refine Done.mk (.inr rfl) Into.refl ?_ [] 0 ?_ ?_ ?_ ?_
    · rfl
    · rfl
    · simp only [go_sem]
      have := hi.2
      rw [List.drop_of_length_le (by omega)] at this
      simpa [idxP] using this
    · trivial
    · rfl
theorem f114_ok (kf : Nat) (ca : List D) (hca : subL (idP []) ca = ca) (xs : List (List Val)) (p : List Val → Bool) (h : ∀ x ∈ xs, FnOK sys kf (rowV x :: ca) [] (.v (.bool (p x))) []) :
    FnOK sys 114 [rowsV xs, .fn (.func kf) [] ca] [] (.v (.bool (xs.any p))) [] := by
  refine FnOK.intro Tryz.f114 (by kernel_rfl) rfl rfl [.tmp 4] rfl 0 rfl (Nat.le_of_ble_eq_true rfl) (by simp [subL, subD, strsD, rowsV, rowV, intss, ints, hca]) rfl fun E hN h0 => W.code (N := 9) [] hN ?_
  repeat (first | refine st_end rfl ?_ | ((first | refine st1 fun K k => ?_ | refine st2 fun K k => ?_ | refine st3 rfl fun K k => ?_ | refine st4 fun K k => ?_); simp only [go_sem]; refine k _ _ _ _ _ _ ?_; clear k K))
  refine st_op fun K k => ?_
  simp only [go_sem]
  refine callP (f175_ok kf ca hca xs p h) ?_
  refine k _ _ _ _ _ ?_; clear k K
  repeat (first | refine st_end rfl ?_ | ((first | refine st1 fun K k => ?_ | refine st2 fun K k => ?_ | refine st3 rfl fun K k => ?_ | refine st4 fun K k => ?_); simp only [go_sem]; refine k _ _ _ _ _ _ ?_; clear k K))
  refine Done.mk (.inr rfl) Into.refl ?_ [] 0 ?_ ?_ ?_ ?_
  · rfl
  · rfl
  · simp only [go_sem]
    exact idxP_any p xs 0
  · trivial
  · rfl
theorem f140_ok (kf : Nat) (ca : List D) (hca : subL (idP []) ca = ca) (xs : List (List Int)) (p : List Int → Bool) (h : ∀ x ∈ xs, FnOK sys kf (ints x :: ca) [] (.v (.bool (p x))) []) :
    FnOK sys 140 [intss xs, .fn (.func kf) [] ca] [] (.v (.int .i64 (idxP p xs 0))) [] := by
  refine FnOK.intro Tryz.f140 (by kernel_rfl) rfl rfl [.tmp 4] rfl 0 rfl (Nat.le_of_ble_eq_true rfl) (by simp [subL, subD, strsD, rowsV, rowV, intss, ints, hca]) rfl fun E hN h0 => W.bound 0 rfl fun hb => W.code (N := 19) [] hN ?_
  simp only [List.length_map, maxLen] at hb
  repeat (first | refine st_end rfl ?_ | ((first | refine st1 fun K k => ?_ | refine st2 fun K k => ?_ | refine st3 rfl fun K k => ?_ | refine st4 fun K k => ?_); simp only [go_sem]; refine k _ _ _ _ _ _ ?_; clear k K))
  refine W.loopP (fun i : Nat => ⟨[(0, intss xs), (1, .fn (.func kf) [] ca), (7, .v (.int .i64 xs.length)), (8, .v (.int .i64 i))], [], 0, []⟩)
    (fun i => i ≤ xs.length ∧ idxP p (xs.drop i) i = idxP p xs 0) (fun i => xs.length - i) 0 ⟨by omega, rfl⟩ (Into.le ?_ trivial (Nat.le_refl _) rfl) fun i hi => W.code (N := 19) [] hN ?_
  · simp only [go_sem]
    exact LeD.refl _
  repeat (first | refine st_end rfl ?_ | ((first | refine st1 fun K k => ?_ | refine st2 fun K k => ?_ | refine st3 rfl fun K k => ?_ | refine st4 fun K k => ?_); simp only [go_sem]; refine k _ _ _ _ _ _ ?_; clear k K))
  refine st_cond fun A B a b => ?_; simp only [go_sem]; refine ⟨fun g => a ?_, fun g => b ?_⟩ <;> clear a b A B
  · obtain ⟨y, hy⟩ := getS (l := xs) (i := i) (by omega)
    have hd := hi.2
    rw [drop_at hy, idxP] at hd
    repeat (first | refine st_end rfl ?_ | ((first | refine st1 fun K k => ?_ | refine st2 fun K k => ?_ | refine st3 rfl fun K k => ?_ | refine st4 fun K k => ?_); simp only [go_sem, hy]; refine k _ _ _ _ _ _ ?_; clear k K))
    refine st_op fun K k => ?_
    simp only [go_sem]
    refine callP (h y (List.mem_of_getElem? hy)) ?_
    refine k _ _ _ _ _ ?_; clear k K
    repeat (first | refine st_end rfl ?_ | ((first | refine st1 fun K k => ?_ | refine st2 fun K k => ?_ | refine st3 rfl fun K k => ?_ | refine st4 fun K k => ?_); simp only [go_sem]; refine k _ _ _ _ _ _ ?_; clear k K))
    refine st_cond fun A B a b => ?_; simp only [go_sem]; refine ⟨fun g => a ?_, fun g => b ?_⟩ <;> clear a b A B
    · repeat (first | refine st_end rfl ?_ | ((first | refine st1 fun K k => ?_ | refine st2 fun K k => ?_ | refine st3 rfl fun K k => ?_ | refine st4 fun K k => ?_); simp only [go_sem]; refine k _ _ _ _ _ _ ?_; clear k K))
      refine iq Into.refl (Done.mk (.inr rfl) Into.refl rfl [] 0 rfl ?_ trivial rfl)
      simp only [go_sem]
      rw [if_pos g] at hd
      exact hd
    · repeat (first | refine st_end rfl ?_ | ((first | refine st1 fun K k => ?_ | refine st2 fun K k => ?_ | refine st3 rfl fun K k => ?_ | refine st4 fun K k => ?_); simp only [go_sem]; refine k _ _ _ _ _ _ ?_; clear k K))
      rw [if_neg (by rw [g]; simp)] at hd
      refine ⟨i + 1, ⟨by omega, hd⟩, by omega, Into.le ?_ trivial (Nat.le_refl _) rfl⟩
      simp only [go_sem]
      rw [wrapTo (m := ((i + 1 : Nat) : Int)) (by omega)]
      exact LeD.refl _
  · refine iq Into.refl ?_
    repeat (first | refine st_end rfl ?_ | ((first | refine st1 fun K k => ?_ | refine st2 fun K k => ?_ | refine st3 rfl fun K k => ?_ | refine st4 fun K k => ?_); simp only [go_sem]; refine k _ _ _ _ _ _ ?_; clear k K))
    refine Done.mk (.inr rfl) Into.refl ?_ [] 0 ?_ ?_ ?_ ?_
    · rfl
    · rfl
    · simp only [go_sem]
      have := hi.2
      rw [List.drop_of_length_le (by omega)] at this
      simpa [idxP] using this
    · trivial
    · rfl
theorem f94_ok (kf : Nat) (ca : List D) (hca : subL (idP []) ca = ca) (xs : List (List Int)) (p : List Int → Bool) (h : ∀ x ∈ xs, FnOK sys kf (ints x :: ca) [] (.v (.bool (p x))) []) :
    FnOK sys 94 [intss xs, .fn (.func kf) [] ca] [] (.v (.bool (xs.any p))) [] := by
  refine FnOK.intro Tryz.f94 (by kernel_rfl) rfl rfl [.tmp 4] rfl 0 rfl (Nat.le_of_ble_eq_true rfl) (by simp [subL, subD, strsD, rowsV, rowV, intss, ints, hca]) rfl fun E hN h0 => W.code (N := 9) [] hN ?_
  repeat (first | refine st_end rfl ?_ | ((first | refine st1 fun K k => ?_ | refine st2 fun K k => ?_ | refine st3 rfl fun K k => ?_ | refine st4 fun K k => ?_); simp only [go_sem]; refine k _ _ _ _ _ _ ?_; clear k K))
  refine st_op fun K k => ?_
  simp only [go_sem]
  refine callP (f140_ok kf ca hca xs p h) ?_
  refine k _ _ _ _ _ ?_; clear k K
  repeat (first | refine st_end rfl ?_ | ((first | refine st1 fun K k => ?_ | refine st2 fun K k => ?_ | refine st3 rfl fun K k => ?_ | refine st4 fun K k => ?_); simp only [go_sem]; refine k _ _ _ _ _ _ ?_; clear k K))
  refine Done.mk (.inr rfl) Into.refl ?_ [] 0 ?_ ?_ ?_ ?_
  · rfl
  · rfl
  · simp only [go_sem]
    exact idxP_any p xs 0
  · trivial
  · rfl
end Go.Proofs.YtjgooecohepkoaaGreatDoor
