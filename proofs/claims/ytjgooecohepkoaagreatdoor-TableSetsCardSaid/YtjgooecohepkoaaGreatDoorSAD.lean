/- Contracts of the functions that the statement reaches. -/
import Derived.Test.YtjgooecohepkoaaGreatDoorSAC
import Derived.Test.YtjgooecohepkoaaGreatDoorSAB
set_option linter.unusedVariables false
set_option linter.unusedSimpArgs false
namespace Go.Proofs.YtjgooecohepkoaaGreatDoor
open Go Go.Abs
set_option linter.unusedSimpArgs false
set_option maxHeartbeats 2000000
theorem idxFrom_iff {α : Type} [DecidableEq α] (x : α) : ∀ (l : List α) (k : Nat), 0 ≤ idxFrom l x k ↔ x ∈ l
  | [], _ => by simp [idxFrom]
  | y :: r, k => by
    unfold idxFrom
    by_cases h : x = y
    · rw [if_pos h]; simp [h]
    · rw [if_neg h, idxFrom_iff x r (k + 1)]; simp [h]
theorem idxFrom_mem {α : Type} [DecidableEq α] (x : α) (l : List α) (k : Nat) (i : Decidable (x ∈ l)) : decide (0 ≤ idxFrom l x k) = @decide _ i := by
  rw [Bool.eq_iff_iff]
  simpa using idxFrom_iff x l k
theorem f81_ok (xs : List (List UInt8)) (x : List UInt8) : FnOK sys 81 [strsD xs, .s x] [] (.v (.bool (decide (x ∈ xs)))) [] := by
  refine FnOK.intro Tryz.f81 (by kernel_rfl) rfl rfl [.tmp 4] rfl 0 rfl (Nat.le_of_ble_eq_true rfl) rfl rfl fun E hN h0 => W.code (N := 9) [] hN ?_
  repeat (first | refine st_end rfl ?_ | ((first | refine st1 fun K k => ?_ | refine st2 fun K k => ?_ | refine st3 rfl fun K k => ?_ | refine st4 fun K k => ?_); simp only [go_sem]; refine k _ _ _ _ _ _ ?_; clear k K))
  refine st_op fun K k => ?_
  simp only [go_sem]
  refine callP (f52_ok xs x) ?_
  refine k _ _ _ _ _ ?_; clear k K
  repeat (first | refine st_end rfl ?_ | ((first | refine st1 fun K k => ?_ | refine st2 fun K k => ?_ | refine st3 rfl fun K k => ?_ | refine st4 fun K k => ?_); simp only [go_sem]; refine k _ _ _ _ _ _ ?_; clear k K))
  refine Done.mk (.inr rfl) Into.refl ?_ [] 0 ?_ ?_ ?_ ?_
  · rfl
  · rfl
  · simp only [go_sem]
    exact idxFrom_mem x xs 0 _
  · trivial
  · rfl
theorem f115_ok (r : List Val) (cols : List (List UInt8)) : FnOK sys 115 [rowV r, .ep [strsD cols]] [] (.v (.bool (decide (r.length ≠ cols.length)))) [] := by
  refine FnOK.intro Tryz.f115 (by kernel_rfl) rfl rfl [.tmp 3] rfl 0 rfl (Nat.le_of_ble_eq_true rfl) rfl rfl fun E hN h0 => W.code (N := 9) [] hN ?_
  repeat (first | refine st_end rfl ?_ | ((first | refine st1 fun K k => ?_ | refine st2 fun K k => ?_ | refine st3 rfl fun K k => ?_ | refine st4 fun K k => ?_); simp only [go_sem]; refine k _ _ _ _ _ _ ?_; clear k K))
  refine Done.mk (.inr rfl) Into.refl ?_ [] 0 ?_ ?_ ?_ ?_
  · rfl
  · rfl
  · simp only [go_sem]
    rw [Bool.eq_iff_iff]
    simp
    omega
  · trivial
  · rfl
theorem f71_ok (cols : List (List UInt8)) (rows : List (List Val)) : FnOK sys 71 [strsD cols, rowsV rows] [] (.v (.bool (rows.all fun r => decide (r.length = cols.length)))) [] := by
  refine FnOK.intro Tryz.f71 (by kernel_rfl) rfl rfl [.tmp 4] rfl 0 rfl (Nat.le_of_ble_eq_true rfl) rfl rfl fun E hN h0 => W.code (N := 9) [2] hN ?_
  repeat (first | refine st_end rfl ?_ | ((first | refine st1 fun K k => ?_ | refine st2 fun K k => ?_ | refine st3 rfl fun K k => ?_ | refine st4 fun K k => ?_); simp only [go_sem]; refine k _ _ _ _ _ _ ?_; clear k K))
  refine st_op fun K k => ?_
  simp only [go_sem]
  refine callP (f114_ok 115 [.ep [strsD cols]] rfl rows (fun r => decide (r.length ≠ cols.length)) fun r _ => f115_ok r cols) ?_
  refine k _ _ _ _ _ ?_; clear k K
  repeat (first | refine st_end rfl ?_ | ((first | refine st1 fun K k => ?_ | refine st2 fun K k => ?_ | refine st3 rfl fun K k => ?_ | refine st4 fun K k => ?_); simp only [go_sem]; refine k _ _ _ _ _ _ ?_; clear k K))
  refine Done.mk (.inr rfl) Into.refl ?_ [] 0 ?_ ?_ ?_ ?_
  · rfl
  · rfl
  · simp only [go_sem]
    simp [List.all_eq_not_any_not]
  · trivial
  · rfl
theorem encV_len (v : Val) : (encV v).length = 7 := (cells7_enc v).1
theorem encV_take (v : Val) : (encV v).take 7 = encV v := List.take_of_length_le (by rw [encV_len]; omega)
open Classical in
theorem f73_ok (a b : List Val) (k : Nat) (x y : Val) (hx : a[k]? = some x) (hy : b[k]? = some y) : FnOK sys 73 [.v (.int .i64 k), .ep [rowV a], .ep [rowV b]] [] (.v (.bool (!decide (x = y)))) [] := by
  refine FnOK.intro Tryz.f73 (by kernel_rfl) rfl rfl [.tmp 4] rfl 0 rfl (Nat.le_of_ble_eq_true rfl) rfl rfl fun E hN h0 => W.code (N := 15) [] hN ?_
  repeat (first | refine st_end rfl ?_ | ((first | refine st1 fun K k => ?_ | refine st2 fun K k => ?_ | refine st3 rfl fun K k => ?_ | refine st4 fun K k => ?_); simp only [go_sem, hx, hy, encV_len, encV_take, Nat.le_refl]; refine k _ _ _ _ _ _ ?_; clear k K))
  refine st_op fun K k => ?_
  simp only [go_sem]
  refine callP (f74_ok x y) ?_
  refine k _ _ _ _ _ ?_; clear k K
  repeat (first | refine st_end rfl ?_ | ((first | refine st1 fun K k => ?_ | refine st2 fun K k => ?_ | refine st3 rfl fun K k => ?_ | refine st4 fun K k => ?_); simp only [go_sem]; refine k _ _ _ _ _ _ ?_; clear k K))
  refine Done.mk (.inr rfl) Into.refl ?_ [] 0 ?_ ?_ ?_ ?_
  · rfl
  · rfl
  · simp only [go_sem]
  · trivial
  · rfl
end Go.Proofs.YtjgooecohepkoaaGreatDoor
namespace Go.Proofs.YtjgooecohepkoaaGreatDoor
open Go Go.Abs
set_option linter.unusedSimpArgs false
set_option maxHeartbeats 2000000
theorem W.boundA {Y : Sy} {E : Env Y} {st : St} {Q : Exit → St → Prop} {c : Code} (t i : Nat) {cs : List D} {es : List (List D)} {sz : Nat} (ht : getT st.σ t = .agg cs) (hc : cs[i]? = some (.sl es sz)) (h : es.length ≤ maxLen → W E c st Q) : W E c st Q := fun a w g hs => by
  have := hs.tm t
  rw [ht] at this
  simp only [Rep] at this
  obtain ⟨vs, _, hl⟩ := this
  obtain ⟨x, _, hx⟩ := hl.get hc
  simp only [Rep] at hx
  obtain ⟨_, c, _, h1, h2, _⟩ := hx
  exact h (by omega) a w g hs
theorem idxFrom_lt {α : Type} [DecidableEq α] (x : α) : ∀ (l : List α) (k : Nat), x ∈ l → ∃ n : Nat, idxFrom l x k = n ∧ n < k + l.length
  | [], _, h => by simp at h
  | y :: r, k, h => by
    unfold idxFrom
    by_cases e : x = y
    · rw [if_pos e]; exact ⟨k, rfl, by simp⟩
    · rw [if_neg e]
      obtain ⟨n, h1, h2⟩ := idxFrom_lt x r (k + 1) (by simpa [e] using h)
      exact ⟨n, h1, by simp; omega⟩
/-- The place of a name that is there. -/
def ix (cols : List (List UInt8)) (s : List UInt8) : Nat := (idxFrom cols s 0).toNat
theorem ix_eq {cols : List (List UInt8)} {s : List UInt8} (h : s ∈ cols) : idxFrom cols s 0 = (ix cols s : Int) ∧ ix cols s < cols.length := by
  obtain ⟨n, h1, h2⟩ := idxFrom_lt s cols 0 h
  unfold ix
  rw [h1]
  exact ⟨by simp, by simp; omega⟩
theorem ix_neg {cols : List (List UInt8)} {s : List UInt8} (h : s ∉ cols) : idxFrom cols s 0 < 0 := by
  have := mt (idxFrom_iff s cols 0).1 h
  omega
open Classical in
theorem f101_ok (xs ys : List Val) (h : ∀ x ∈ xs, ∀ y, FnOK sys 18 [.agg (encV x), .agg (encV y)] [] (.v (.bool (decide (x = y)))) []) : FnOK sys 101 [rowV xs, rowV ys] [] (.v (.bool (decide (xs = ys)))) [] := by
  refine FnOK.intro Tryz.f101 (by kernel_rfl) rfl rfl [.tmp 4] rfl 0 rfl (Nat.le_of_ble_eq_true rfl) rfl rfl fun E hN h0 => W.bound 0 rfl fun hb => W.code (N := 29) [] hN ?_
  simp only [List.length_map, maxLen] at hb
  repeat (first | refine st_end rfl ?_ | ((first | refine st1 fun K k => ?_ | refine st2 fun K k => ?_ | refine st3 rfl fun K k => ?_ | refine st4 fun K k => ?_); simp only [go_sem]; refine k _ _ _ _ _ _ ?_; clear k K))
  refine st_cond fun A B a b => ?_; simp only [go_sem]; refine ⟨fun g => a ?_, fun g => b ?_⟩ <;> clear a b A B
  · repeat (first | refine st_end rfl ?_ | ((first | refine st1 fun K k => ?_ | refine st2 fun K k => ?_ | refine st3 rfl fun K k => ?_ | refine st4 fun K k => ?_); simp only [go_sem]; refine k _ _ _ _ _ _ ?_; clear k K))
    refine Done.mk (.inr rfl) Into.refl rfl [] 0 rfl ?_ trivial rfl
    simp only [go_sem]
    have h : ¬ (xs.length : Int) = ys.length := by simpa using g
    have h2 : ¬ xs = ys := by rintro rfl; exact h rfl
    simp [h2]
  · have hl : (xs.length : Int) = ys.length := by simpa using g
    repeat (first | refine st_end rfl ?_ | ((first | refine st1 fun K k => ?_ | refine st2 fun K k => ?_ | refine st3 rfl fun K k => ?_ | refine st4 fun K k => ?_); simp only [go_sem]; refine k _ _ _ _ _ _ ?_; clear k K))
    refine W.loopP (fun i : Nat => ⟨[(0, rowV xs), (1, rowV ys), (5, .v (.int .i64 i))], [], 0, []⟩)
      (fun i => i ≤ xs.length ∧ ∀ j, j < i → xs[j]? = ys[j]?) (fun i => xs.length - i) 0 ⟨by omega, by omega⟩ (Into.le ?_ trivial (Nat.le_refl _) rfl) fun i hi => W.code (N := 29) [] hN ?_
    · simp only [go_sem]
      exact LeD.refl _
    repeat (first | refine st_end rfl ?_ | ((first | refine st1 fun K k => ?_ | refine st2 fun K k => ?_ | refine st3 rfl fun K k => ?_ | refine st4 fun K k => ?_); simp only [go_sem]; refine k _ _ _ _ _ _ ?_; clear k K))
    refine st_cond fun A B a b => ?_; simp only [go_sem]; refine ⟨fun g => a ?_, fun g => b ?_⟩ <;> clear a b A B
    · obtain ⟨x, hx⟩ := getS (l := xs) (i := i) (by omega)
      obtain ⟨y, hy⟩ := getS (l := ys) (i := i) (by omega)
      repeat (first | refine st_end rfl ?_ | ((first | refine st1 fun K k => ?_ | refine st2 fun K k => ?_ | refine st3 rfl fun K k => ?_ | refine st4 fun K k => ?_); simp only [go_sem, hx, hy, encV_len, encV_take, Nat.le_refl]; refine k _ _ _ _ _ _ ?_; clear k K))
      (first | refine st1 fun K k => ?_ | refine st3 rfl fun K k => ?_); simp only [go_sem]; refine callP (h x (List.mem_of_getElem? hx) y) ?_; refine k _ _ _ _ _ _ ?_; clear k K
      by_cases e : x = y
      · have w5 : IntKind.wrap .i64 ((i : Int) + 1) = ((i + 1 : Nat) : Int) := wrapTo (by omega)
        repeat (first | refine st_end rfl ?_ | ((first | refine st1 fun K k => ?_ | refine st2 fun K k => ?_ | refine st3 rfl fun K k => ?_ | refine st4 fun K k => ?_); simp only [go_sem, e, decide_true, w5]; refine k _ _ _ _ _ _ ?_; clear k K))
        refine ⟨i + 1, ⟨by omega, fun j hj => ?_⟩, by omega, Into.le ?_ trivial (Nat.le_refl _) rfl⟩
        · by_cases hji : j = i
          · rw [hji, hx, hy, e]
          · exact hi.2 j (by omega)
        simp only [go_sem]
      · repeat (first | refine st_end rfl ?_ | ((first | refine st1 fun K k => ?_ | refine st2 fun K k => ?_ | refine st3 rfl fun K k => ?_ | refine st4 fun K k => ?_); simp only [go_sem, e, decide_false]; refine k _ _ _ _ _ _ ?_; clear k K))
        refine iq Into.refl (Done.mk (.inr rfl) Into.refl rfl [] 0 rfl ?_ trivial rfl)
        simp only [go_sem]
        have e2 : ¬ xs = ys := by rintro rfl; rw [hx] at hy; cases hy; exact e rfl
        simp [e2]
    · refine iq Into.refl ?_
      repeat (first | refine st_end rfl ?_ | ((first | refine st1 fun K k => ?_ | refine st2 fun K k => ?_ | refine st3 rfl fun K k => ?_ | refine st4 fun K k => ?_); simp only [go_sem]; refine k _ _ _ _ _ _ ?_; clear k K))
      refine Done.mk (.inr rfl) Into.refl ?_ [] 0 ?_ ?_ ?_ ?_
      · rfl
      · rfl
      · simp only [go_sem]
        have e : xs = ys := by
          refine List.ext_getElem? fun j => ?_
          by_cases hj : j < xs.length
          · exact hi.2 j (by omega)
          · rw [List.getElem?_eq_none (by omega), List.getElem?_eq_none (by omega)]
        simp [e]
      · trivial
      · rfl

open Classical in
theorem f58_ok (xs ys : List (List Val)) (h : ∀ x ∈ xs, ∀ y, FnOK sys 101 [rowV x, rowV y] [] (.v (.bool (decide (x = y)))) []) : FnOK sys 58 [rowsV xs, rowsV ys] [] (.v (.bool (decide (xs = ys)))) [] := by
  refine FnOK.intro Tryz.f58 (by kernel_rfl) rfl rfl [.tmp 4] rfl 0 rfl (Nat.le_of_ble_eq_true rfl) rfl rfl fun E hN h0 => W.bound 0 rfl fun hb => W.code (N := 29) [] hN ?_
  simp only [List.length_map, maxLen] at hb
  repeat (first | refine st_end rfl ?_ | ((first | refine st1 fun K k => ?_ | refine st2 fun K k => ?_ | refine st3 rfl fun K k => ?_ | refine st4 fun K k => ?_); simp only [go_sem]; refine k _ _ _ _ _ _ ?_; clear k K))
  refine st_cond fun A B a b => ?_; simp only [go_sem]; refine ⟨fun g => a ?_, fun g => b ?_⟩ <;> clear a b A B
  · repeat (first | refine st_end rfl ?_ | ((first | refine st1 fun K k => ?_ | refine st2 fun K k => ?_ | refine st3 rfl fun K k => ?_ | refine st4 fun K k => ?_); simp only [go_sem]; refine k _ _ _ _ _ _ ?_; clear k K))
    refine Done.mk (.inr rfl) Into.refl rfl [] 0 rfl ?_ trivial rfl
    simp only [go_sem]
    have h : ¬ (xs.length : Int) = ys.length := by simpa using g
    have h2 : ¬ xs = ys := by rintro rfl; exact h rfl
    simp [h2]
  · have hl : (xs.length : Int) = ys.length := by simpa using g
    repeat (first | refine st_end rfl ?_ | ((first | refine st1 fun K k => ?_ | refine st2 fun K k => ?_ | refine st3 rfl fun K k => ?_ | refine st4 fun K k => ?_); simp only [go_sem]; refine k _ _ _ _ _ _ ?_; clear k K))
    refine W.loopP (fun i : Nat => ⟨[(0, rowsV xs), (1, rowsV ys), (5, .v (.int .i64 i))], [], 0, []⟩)
      (fun i => i ≤ xs.length ∧ ∀ j, j < i → xs[j]? = ys[j]?) (fun i => xs.length - i) 0 ⟨by omega, by omega⟩ (Into.le ?_ trivial (Nat.le_refl _) rfl) fun i hi => W.code (N := 29) [] hN ?_
    · simp only [go_sem]
      exact LeD.refl _
    repeat (first | refine st_end rfl ?_ | ((first | refine st1 fun K k => ?_ | refine st2 fun K k => ?_ | refine st3 rfl fun K k => ?_ | refine st4 fun K k => ?_); simp only [go_sem]; refine k _ _ _ _ _ _ ?_; clear k K))
    refine st_cond fun A B a b => ?_; simp only [go_sem]; refine ⟨fun g => a ?_, fun g => b ?_⟩ <;> clear a b A B
    · obtain ⟨x, hx⟩ := getS (l := xs) (i := i) (by omega)
      obtain ⟨y, hy⟩ := getS (l := ys) (i := i) (by omega)
      repeat (first | refine st_end rfl ?_ | ((first | refine st1 fun K k => ?_ | refine st2 fun K k => ?_ | refine st3 rfl fun K k => ?_ | refine st4 fun K k => ?_); simp only [go_sem, hx, hy, encV_len, encV_take, Nat.le_refl]; refine k _ _ _ _ _ _ ?_; clear k K))
      (first | refine st1 fun K k => ?_ | refine st3 rfl fun K k => ?_); simp only [go_sem]; refine callP (h x (List.mem_of_getElem? hx) y) ?_; refine k _ _ _ _ _ _ ?_; clear k K
      by_cases e : x = y
      · have w5 : IntKind.wrap .i64 ((i : Int) + 1) = ((i + 1 : Nat) : Int) := wrapTo (by omega)
        repeat (first | refine st_end rfl ?_ | ((first | refine st1 fun K k => ?_ | refine st2 fun K k => ?_ | refine st3 rfl fun K k => ?_ | refine st4 fun K k => ?_); simp only [go_sem, e, decide_true, w5]; refine k _ _ _ _ _ _ ?_; clear k K))
        refine ⟨i + 1, ⟨by omega, fun j hj => ?_⟩, by omega, Into.le ?_ trivial (Nat.le_refl _) rfl⟩
        · by_cases hji : j = i
          · rw [hji, hx, hy, e]
          · exact hi.2 j (by omega)
        simp only [go_sem]
      · repeat (first | refine st_end rfl ?_ | ((first | refine st1 fun K k => ?_ | refine st2 fun K k => ?_ | refine st3 rfl fun K k => ?_ | refine st4 fun K k => ?_); simp only [go_sem, e, decide_false]; refine k _ _ _ _ _ _ ?_; clear k K))
        refine iq Into.refl (Done.mk (.inr rfl) Into.refl rfl [] 0 rfl ?_ trivial rfl)
        simp only [go_sem]
        have e2 : ¬ xs = ys := by rintro rfl; rw [hx] at hy; cases hy; exact e rfl
        simp [e2]
    · refine iq Into.refl ?_
      repeat (first | refine st_end rfl ?_ | ((first | refine st1 fun K k => ?_ | refine st2 fun K k => ?_ | refine st3 rfl fun K k => ?_ | refine st4 fun K k => ?_); simp only [go_sem]; refine k _ _ _ _ _ _ ?_; clear k K))
      refine Done.mk (.inr rfl) Into.refl ?_ [] 0 ?_ ?_ ?_ ?_
      · rfl
      · rfl
      · simp only [go_sem]
        have e : xs = ys := by
          refine List.ext_getElem? fun j => ?_
          by_cases hj : j < xs.length
          · exact hi.2 j (by omega)
          · rw [List.getElem?_eq_none (by omega), List.getElem?_eq_none (by omega)]
        simp [e]
      · trivial
      · rfl
open Classical in
/-- One call of the reference's Equal, if what lies within is known. -/
theorem f18_step (k1 : Int) (s1 : List UInt8) (dn1 ds1 n1 : Int) (c1 : List (List UInt8)) (r1 : List (List Val)) (k2 : Int) (s2 : List UInt8) (dn2 ds2 n2 : Int) (c2 : List (List UInt8)) (r2 : List (List Val))
    (h : FnOK sys 58 [.sl (encRs r1) 1, .sl (encRs r2) 1] [] (.v (.bool (decide (r1 = r2)))) []) :
    FnOK sys 18 [.agg (encV (.mk k1 s1 dn1 ds1 n1 c1 r1)), .agg (encV (.mk k2 s2 dn2 ds2 n2 c2 r2))] [] (.v (.bool (decide (k1 = k2 ∧ s1 = s2 ∧ (dn1 = dn2 ∧ ds1 = ds2) ∧ n1 = n2 ∧ c1 = c2 ∧ r1 = r2)))) [] := by
  refine FnOK.intro Tryz.f18 (by kernel_rfl) rfl rfl [.tmp 4] rfl 0 rfl (Nat.le_of_ble_eq_true rfl) rfl rfl fun E hN h0 => W.code (N := 45) [2, 3] hN ?_
  by_cases e1 : k1 = k2
  case neg =>
    have e1' : (k1 == k2) = false := by simpa using e1
    repeat (first | refine st_end rfl ?_ | ((first | refine st1 fun K k => ?_ | refine st2 fun K k => ?_ | refine st3 rfl fun K k => ?_ | refine st4 fun K k => ?_); simp only [go_sem, encV, beq_self_eq_true, Bool.and_false, Bool.false_and, e1']; refine k _ _ _ _ _ _ ?_; clear k K))
    refine Done.mk (.inr rfl) Into.refl ?_ [] 0 ?_ ?_ ?_ ?_
    · rfl
    · rfl
    · simp only [go_sem]
      simp [e1]
    · trivial
    · rfl
  subst e1
  by_cases e2 : s1 = s2
  case neg =>
    have e2' : (s1 == s2) = false := by simpa using e2
    repeat (first | refine st_end rfl ?_ | ((first | refine st1 fun K k => ?_ | refine st2 fun K k => ?_ | refine st3 rfl fun K k => ?_ | refine st4 fun K k => ?_); simp only [go_sem, encV, beq_self_eq_true, Bool.and_false, Bool.false_and, e2']; refine k _ _ _ _ _ _ ?_; clear k K))
    refine Done.mk (.inr rfl) Into.refl ?_ [] 0 ?_ ?_ ?_ ?_
    · rfl
    · rfl
    · simp only [go_sem]
      simp [e2]
    · trivial
    · rfl
  subst e2
  by_cases e3 : dn1 = dn2
  case neg =>
    have e3' : (dn1 == dn2) = false := by simpa using e3
    repeat (first | refine st_end rfl ?_ | ((first | refine st1 fun K k => ?_ | refine st2 fun K k => ?_ | refine st3 rfl fun K k => ?_ | refine st4 fun K k => ?_); simp only [go_sem, encV, beq_self_eq_true, Bool.and_false, Bool.false_and, e3']; refine k _ _ _ _ _ _ ?_; clear k K))
    refine Done.mk (.inr rfl) Into.refl ?_ [] 0 ?_ ?_ ?_ ?_
    · rfl
    · rfl
    · simp only [go_sem]
      simp [e3]
    · trivial
    · rfl
  subst e3
  by_cases e4 : ds1 = ds2
  case neg =>
    have e4' : (ds1 == ds2) = false := by simpa using e4
    repeat (first | refine st_end rfl ?_ | ((first | refine st1 fun K k => ?_ | refine st2 fun K k => ?_ | refine st3 rfl fun K k => ?_ | refine st4 fun K k => ?_); simp only [go_sem, encV, beq_self_eq_true, Bool.and_false, Bool.false_and, e4']; refine k _ _ _ _ _ _ ?_; clear k K))
    refine Done.mk (.inr rfl) Into.refl ?_ [] 0 ?_ ?_ ?_ ?_
    · rfl
    · rfl
    · simp only [go_sem]
      simp [e4]
    · trivial
    · rfl
  subst e4
  by_cases e5 : n1 = n2
  case neg =>
    have e5' : (n1 == n2) = false := by simpa using e5
    repeat (first | refine st_end rfl ?_ | ((first | refine st1 fun K k => ?_ | refine st2 fun K k => ?_ | refine st3 rfl fun K k => ?_ | refine st4 fun K k => ?_); simp only [go_sem, encV, beq_self_eq_true, Bool.and_false, Bool.false_and, e5']; refine k _ _ _ _ _ _ ?_; clear k K))
    refine Done.mk (.inr rfl) Into.refl ?_ [] 0 ?_ ?_ ?_ ?_
    · rfl
    · rfl
    · simp only [go_sem]
      simp [e5]
    · trivial
    · rfl
  subst e5
  repeat (first | refine st_end rfl ?_ | ((first | refine st1 fun K k => ?_ | refine st2 fun K k => ?_ | refine st3 rfl fun K k => ?_ | refine st4 fun K k => ?_); simp only [go_sem, encV, beq_self_eq_true, Bool.and_true]; refine k _ _ _ _ _ _ ?_; clear k K))
  refine st3 rfl fun K k => ?_
  simp only [go_sem]
  refine callP (f28_ok c1 c2) ?_
  refine k _ _ _ _ _ _ ?_; clear k K
  by_cases e6 : c1 = c2
  case neg =>
    repeat (first | refine st_end rfl ?_ | ((first | refine st1 fun K k => ?_ | refine st2 fun K k => ?_ | refine st3 rfl fun K k => ?_ | refine st4 fun K k => ?_); simp only [go_sem, encV, e6, decide_false]; refine k _ _ _ _ _ _ ?_; clear k K))
    refine Done.mk (.inr rfl) Into.refl ?_ [] 0 ?_ ?_ ?_ ?_
    · rfl
    · rfl
    · simp only [go_sem]
      simp [e6]
    · trivial
    · rfl
  subst e6
  repeat (first | refine st_end rfl ?_ | ((first | refine st1 fun K k => ?_ | refine st2 fun K k => ?_ | refine st3 rfl fun K k => ?_ | refine st4 fun K k => ?_); simp only [go_sem, encV, decide_true]; refine k _ _ _ _ _ _ ?_; clear k K))
  refine st3 rfl fun K k => ?_
  simp only [go_sem]
  refine callP h ?_
  refine k _ _ _ _ _ _ ?_; clear k K
  repeat (first | refine st_end rfl ?_ | ((first | refine st1 fun K k => ?_ | refine st2 fun K k => ?_ | refine st3 rfl fun K k => ?_ | refine st4 fun K k => ?_); simp only [go_sem, encV]; refine k _ _ _ _ _ _ ?_; clear k K))
  refine Done.mk (.inr rfl) Into.refl ?_ [] 0 ?_ ?_ ?_ ?_
  · rfl
  · rfl
  · simp only [go_sem]
  · trivial
  · rfl
theorem encRs_rows (r : List (List Val)) : D.sl (encRs r) 1 = rowsV r := by
  rw [encRs_map, List.map_map]; rfl
open Classical in
theorem f18_ok_at : ∀ (n : Nat) (a b : Val), SizeOf.sizeOf a ≤ n → FnOK sys 18 [.agg (encV a), .agg (encV b)] [] (.v (.bool (decide (a = b)))) []
  | 0, .mk .., _, h => by simp at h
  | n + 1, .mk k1 s1 dn1 ds1 n1 c1 r1, .mk k2 s2 dn2 ds2 n2 c2 r2, hn => by
    have hcell : ∀ row ∈ r1, ∀ v ∈ row, ∀ u, FnOK sys 18 [.agg (encV v), .agg (encV u)] [] (.v (.bool (decide (v = u)))) [] := by
      intro row hrow v hv u
      refine f18_ok_at n v u ?_
      have q1 := List.sizeOf_lt_of_mem hrow
      have q2 := List.sizeOf_lt_of_mem hv
      simp at hn
      omega
    have h58 := f58_ok r1 r2 fun row hrow row2 => f101_ok row row2 fun v hv u => hcell row hrow v hv u
    have := f18_step k1 s1 dn1 ds1 n1 c1 r1 k2 s2 dn2 ds2 n2 c2 r2 (by rw [encRs_rows, encRs_rows]; exact h58)
    have e : decide (k1 = k2 ∧ s1 = s2 ∧ (dn1 = dn2 ∧ ds1 = ds2) ∧ n1 = n2 ∧ c1 = c2 ∧ r1 = r2) = decide (Val.mk k1 s1 dn1 ds1 n1 c1 r1 = Val.mk k2 s2 dn2 ds2 n2 c2 r2) := by
      rw [Bool.eq_iff_iff]
      simp [and_assoc]
    rwa [e] at this
open Classical in
theorem f18_ok (a b : Val) : FnOK sys 18 [.agg (encV a), .agg (encV b)] [] (.v (.bool (decide (a = b)))) [] := f18_ok_at _ a b (Nat.le_refl _)
/-! ### Flat values -/
def FV.val (v : FV) : Val := .mk v.kind v.s v.dn v.ds v.num [] []
def valsOf (rs : List (List FV)) : List (List Val) := rs.map fun r => r.map FV.val
theorem cells_le (v : FV) : LeL v.cells (encV v.val) := by
  unfold FV.cells FV.val encV
  refine LeL.cons (LeD.refl _) (LeL.cons (LeD.refl _) (LeL.cons (LeD.refl _) (LeL.cons (LeD.refl _) (LeL.cons (LeD.refl _) (LeL.cons (LeD.nil 1) (LeL.cons (LeD.nil 1) LeL.nil))))))
theorem row_le (r : List FV) : LeD (rowD r) (rowV (r.map FV.val)) := by
  unfold rowD rowV
  refine LeD.sl (by simp) ?_ ?_
  · intro e he
    obtain ⟨v, _, rfl⟩ := List.mem_map.1 he
    exact encV_len v
  · intro i e e' h1 h2
    rw [List.getElem?_map] at h1 h2
    rw [List.getElem?_map] at h2
    cases hr : r[i]? with
    | none => rw [hr] at h1; cases h1
    | some v =>
      rw [hr] at h1 h2
      cases h1; cases h2
      exact cells_le v
theorem rows_le (rs : List (List FV)) : LeD (rowsD rs) (rowsV (valsOf rs)) := by
  unfold rowsD rowsV valsOf
  refine LeD.sl (by simp) ?_ ?_
  · intro e he
    obtain ⟨v, _, rfl⟩ := List.mem_map.1 he
    rfl
  · intro i e e' h1 h2
    rw [List.getElem?_map] at h1 h2
    rw [List.getElem?_map] at h2
    cases hr : rs[i]? with
    | none => rw [hr] at h1; cases h1
    | some v =>
      rw [hr] at h1 h2
      cases h1; cases h2
      exact LeL.cons (row_le v) LeL.nil
end Go.Proofs.YtjgooecohepkoaaGreatDoor
namespace Go.Proofs.YtjgooecohepkoaaGreatDoor
open Go Go.Abs
set_option linter.unusedSimpArgs false
set_option maxHeartbeats 2000000
def Val.kind : Val → Int
  | .mk k _ _ _ _ _ _ => k
def names6 : List (List UInt8) := names5 ++ [[]]
def mod6 (n : Int) : Nat := ((n.tmod 6 + 6).tmod 6).toNat
theorem mod6_lt (n : Int) : mod6 n < 6 := by
  have b1 : -6 < n.tmod 6 ∧ n.tmod 6 < 6 := ⟨Int.lt_tmod_of_pos n (by omega), Int.tmod_lt_of_pos n (by omega)⟩
  have b3 := Int.tmod_lt_of_pos (n.tmod 6 + 6) (show (0 : Int) < 6 by omega)
  unfold mod6; omega
theorem names6_at {j : Nat} (h : j < 6) : ([[.s [99, 105, 116, 121]], [.s [122, 105, 112]], [.s [99, 111, 117, 110, 116, 114, 121]], [.s [115, 105, 110, 99, 101]], [.s [120]], [.s []]] : List (List D))[j]? = some [.s (names6.getD j [])] := by
  rcases j with _ | _ | _ | _ | _ | _ | j <;> first | rfl | omega
theorem f16_ok (n : Int) : FnOK sys 16 [.v (.int .i64 n)] [] (.s (names6.getD (mod6 n) [])) [] := by
  refine FnOK.intro Tryz.f16 (by kernel_rfl) rfl rfl [.tmp 2] rfl 0 rfl (Nat.le_of_ble_eq_true rfl) rfl rfl fun E hN h0 => W.code (N := 10) [3] hN ?_
  have b1 : -6 < n.tmod 6 ∧ n.tmod 6 < 6 := ⟨Int.lt_tmod_of_pos n (by omega), Int.tmod_lt_of_pos n (by omega)⟩
  have b2 := Int.tmod_nonneg 6 (show 0 ≤ n.tmod 6 + 6 by omega)
  have b3 := Int.tmod_lt_of_pos (n.tmod 6 + 6) (show (0 : Int) < 6 by omega)
  have w1 : IntKind.wrap .i64 (n.tmod 6) = n.tmod 6 := wrapTo (by omega)
  have w2 : IntKind.wrap .i64 (n.tmod 6 + 6) = n.tmod 6 + 6 := wrapTo (by omega)
  have w3 : (n.tmod 6 + 6).tmod 6 = ((mod6 n : Nat) : Int) := by unfold mod6; omega
  have hl1 : (mod6 n : Int) < 6 := by have := mod6_lt n; omega
  have hm := names6_at (mod6_lt n)
  have hl := mod6_lt n
  repeat (first | refine st_end rfl ?_ | ((first | refine st1 fun K k => ?_ | refine st2 fun K k => ?_ | refine st3 rfl fun K k => ?_ | refine st4 fun K k => ?_); simp only [go_sem, w1, w2, w3, hm, hl, hl1, Int.toNat_natCast]; refine k _ _ _ _ _ _ ?_; clear k K))
  refine Done.mk (.inr rfl) Into.refl ?_ [] 0 ?_ ?_ ?_ ?_
  · rfl
  · rfl
  · simp only [go_sem]
  · trivial
  · rfl
open Classical in
/-- Is a cell this value. -/
theorem f54_ok (a b : Val) : FnOK sys 54 [.agg (encV a), .agg (encV b)] [] (.v (.bool (decide (a.kind ≠ 0 ∧ a = b)))) [] := by
  obtain ⟨kd, s, dn, ds, num, cols, rows⟩ := a
  obtain ⟨kd', s', dn', ds', num', cols', rows'⟩ := b
  have h74 := f74_ok (.mk kd s dn ds num cols rows) (.mk kd' s' dn' ds' num' cols' rows')
  refine FnOK.intro Tryz.f54 (by kernel_rfl) rfl rfl [.tmp 4] rfl 0 rfl (Nat.le_of_ble_eq_true rfl) rfl rfl fun E hN h0 => W.code (N := 13) [2, 3] hN ?_
  by_cases e : kd = 0
  · have e1 : (kd == 0) = true := by simpa using e
    repeat (first | refine st_end rfl ?_ | ((first | refine st1 fun K k => ?_ | refine st2 fun K k => ?_ | refine st3 rfl fun K k => ?_ | refine st4 fun K k => ?_); simp only [go_sem, encV, e1, bne, Bool.not_false, Bool.not_true]; refine k _ _ _ _ _ _ ?_; clear k K))
    refine Done.mk (.inr rfl) Into.refl ?_ [] 0 ?_ ?_ ?_ ?_
    · rfl
    · rfl
    · simp only [go_sem]
      simp [Val.kind, e]
    · trivial
    · rfl
  · have e1 : (kd == 0) = false := by simpa using e
    repeat (first | refine st_end rfl ?_ | ((first | refine st1 fun K k => ?_ | refine st2 fun K k => ?_ | refine st3 rfl fun K k => ?_ | refine st4 fun K k => ?_); simp only [go_sem, encV, e1, bne, Bool.not_false, Bool.not_true]; refine k _ _ _ _ _ _ ?_; clear k K))
    (first | refine st1 fun K k => ?_ | refine st3 rfl fun K k => ?_); simp only [go_sem]; refine callP (h74) ?_; refine k _ _ _ _ _ _ ?_; clear k K
    repeat (first | refine st_end rfl ?_ | ((first | refine st1 fun K k => ?_ | refine st2 fun K k => ?_ | refine st3 rfl fun K k => ?_ | refine st4 fun K k => ?_); simp only [go_sem]; refine k _ _ _ _ _ _ ?_; clear k K))
    refine Done.mk (.inr rfl) Into.refl ?_ [] 0 ?_ ?_ ?_ ?_
    · rfl
    · rfl
    · simp only [go_sem]
      simp [Val.kind, e]
    · trivial
    · rfl
open Classical in
theorem f57_ok (a b : Val) : FnOK sys 57 [.agg (encV a), .agg (encV b)] [] (.v (.bool (decide (a.kind ≠ 0 ∧ a = b)))) [] := by
  obtain ⟨kd, s, dn, ds, num, cols, rows⟩ := a
  obtain ⟨kd', s', dn', ds', num', cols', rows'⟩ := b
  have h18 := f18_ok (.mk kd s dn ds num cols rows) (.mk kd' s' dn' ds' num' cols' rows')
  refine FnOK.intro Tryz.f57 (by kernel_rfl) rfl rfl [.tmp 4] rfl 0 rfl (Nat.le_of_ble_eq_true rfl) rfl rfl fun E hN h0 => W.code (N := 15) [2, 3] hN ?_
  by_cases e : kd = 0
  · have e1 : (kd == 0) = true := by simpa using e
    repeat (first | refine st_end rfl ?_ | ((first | refine st1 fun K k => ?_ | refine st2 fun K k => ?_ | refine st3 rfl fun K k => ?_ | refine st4 fun K k => ?_); simp only [go_sem, encV]; refine k _ _ _ _ _ _ ?_; clear k K))
    (first | refine st1 fun K k => ?_ | refine st3 rfl fun K k => ?_); simp only [go_sem]; refine callP (h18) ?_; refine k _ _ _ _ _ _ ?_; clear k K
    repeat (first | refine st_end rfl ?_ | ((first | refine st1 fun K k => ?_ | refine st2 fun K k => ?_ | refine st3 rfl fun K k => ?_ | refine st4 fun K k => ?_); simp only [go_sem, encV, e1, bne, Bool.not_false, Bool.not_true]; refine k _ _ _ _ _ _ ?_; clear k K))
    refine Done.mk (.inr rfl) Into.refl ?_ [] 0 ?_ ?_ ?_ ?_
    · rfl
    · rfl
    · simp only [go_sem]
      simp [Val.kind, e]
    · trivial
    · rfl
  · have e1 : (kd == 0) = false := by simpa using e
    repeat (first | refine st_end rfl ?_ | ((first | refine st1 fun K k => ?_ | refine st2 fun K k => ?_ | refine st3 rfl fun K k => ?_ | refine st4 fun K k => ?_); simp only [go_sem, encV]; refine k _ _ _ _ _ _ ?_; clear k K))
    (first | refine st1 fun K k => ?_ | refine st3 rfl fun K k => ?_); simp only [go_sem]; refine callP (h18) ?_; refine k _ _ _ _ _ _ ?_; clear k K
    repeat (first | refine st_end rfl ?_ | ((first | refine st1 fun K k => ?_ | refine st2 fun K k => ?_ | refine st3 rfl fun K k => ?_ | refine st4 fun K k => ?_); simp only [go_sem, encV, e1, bne, Bool.not_false, Bool.not_true]; refine k _ _ _ _ _ _ ?_; clear k K))
    refine Done.mk (.inr rfl) Into.refl ?_ [] 0 ?_ ?_ ?_ ?_
    · rfl
    · rfl
    · simp only [go_sem]
      simp [Val.kind, e]
    · trivial
    · rfl
end Go.Proofs.YtjgooecohepkoaaGreatDoor
namespace Go.Proofs.YtjgooecohepkoaaGreatDoor
open Go Go.Abs
set_option linter.unusedSimpArgs false
set_option maxHeartbeats 2000000
/-! value.bare: what a value of a kind may not bear -/
theorem wrap_add0 (a b : Nat) (ha : a ≤ 9223372036854775807) (hb : b ≤ 9223372036854775807) : IntKind.wrap .i64 ((a : Int) + b) = 0 ↔ a + b = 0 := by
  simp only [IntKind.wrap, IntKind.bits, IntKind.signed]
  obtain ⟨n, hn⟩ : ∃ n : Int, n = (a : Int) + b := ⟨_, rfl⟩
  rw [← hn]
  have e : (a + b = 0) ↔ n = 0 := by omega
  rw [e]
  have h1 : 0 ≤ n := by omega
  have h2 : n ≤ 18446744073709551614 := by omega
  have h3 : n % 2 ^ 64 = n := Int.emod_eq_of_lt h1 (by omega)
  simp only [h3, Bool.true_and, decide_eq_true_eq, Nat.reduceSub]
  split
  · omega
  · omega
theorem f147_N (kd : Int) (s : List UInt8) (dn ds num : Int) (cols : List (List UInt8)) (rows : List (List Val)) :
    FnOK sys 147 [.agg (encV (.mk kd s dn ds num cols rows)), .v (.int .u8 78)] [] (.v (.bool (decide (s = [] ∧ dn = 0 ∧ ds = 0 ∧ cols.length + rows.length = 0)))) [] := by
  refine FnOK.intro Tryz.f147 (by kernel_rfl) rfl rfl [.tmp 4] rfl 0 rfl (Nat.le_of_ble_eq_true rfl) rfl rfl fun E hN h0 => W.boundA 0 5 (es := cols.map fun s => [D.s s]) (sz := 1) rfl (by simp [encV, strsD]) fun hb => W.boundA 0 6 (es := encRs rows) (sz := 1) rfl (by simp [encV]) fun hb2 => W.code (N := 45) [2] hN ?_
  have hrl : (encRs rows).length = rows.length := by rw [encRs_map]; simp
  simp only [List.length_map, maxLen, hrl] at hb hb2
  have w : IntKind.wrap .i64 ((cols.length : Int) + rows.length) = 0 ↔ cols.length + rows.length = 0 := wrap_add0 _ _ hb hb2
  by_cases e0 : s = []
  case neg =>
    have q : (s == []) = false := by simpa using e0
    have hn : ¬ (s = [] ∧ dn = 0 ∧ ds = 0 ∧ cols.length + rows.length = 0) := by rintro ⟨a0, a1, a2, a3⟩; exact e0 a0
    repeat (first | refine st_end rfl ?_ | ((first | refine st1 fun K k => ?_ | refine st2 fun K k => ?_ | refine st3 rfl fun K k => ?_ | refine st4 fun K k => ?_); simp only [go_sem, encV, q, hrl, Bool.and_false, Bool.false_and, Bool.and_true, beq_self_eq_true]; refine k _ _ _ _ _ _ ?_; clear k K))
    refine Done.mk (.inr rfl) Into.refl ?_ [] 0 ?_ ?_ ?_ ?_
    · rfl
    · rfl
    · simp only [go_sem, hn, decide_false]
    · trivial
    · rfl
  have q0 : (s == []) = true := by simpa using e0
  by_cases e1 : dn = 0
  case neg =>
    have q : (dn == 0) = false := by simpa using e1
    have hn : ¬ (s = [] ∧ dn = 0 ∧ ds = 0 ∧ cols.length + rows.length = 0) := by rintro ⟨a0, a1, a2, a3⟩; exact e1 a1
    repeat (first | refine st_end rfl ?_ | ((first | refine st1 fun K k => ?_ | refine st2 fun K k => ?_ | refine st3 rfl fun K k => ?_ | refine st4 fun K k => ?_); simp only [go_sem, encV, q, hrl, q0, Bool.and_false, Bool.false_and, Bool.and_true, beq_self_eq_true]; refine k _ _ _ _ _ _ ?_; clear k K))
    refine Done.mk (.inr rfl) Into.refl ?_ [] 0 ?_ ?_ ?_ ?_
    · rfl
    · rfl
    · simp only [go_sem, hn, decide_false]
    · trivial
    · rfl
  have q1 : (dn == 0) = true := by simpa using e1
  by_cases e2 : ds = 0
  case neg =>
    have q : (ds == 0) = false := by simpa using e2
    have hn : ¬ (s = [] ∧ dn = 0 ∧ ds = 0 ∧ cols.length + rows.length = 0) := by rintro ⟨a0, a1, a2, a3⟩; exact e2 a2
    repeat (first | refine st_end rfl ?_ | ((first | refine st1 fun K k => ?_ | refine st2 fun K k => ?_ | refine st3 rfl fun K k => ?_ | refine st4 fun K k => ?_); simp only [go_sem, encV, q, hrl, q0, q1, Bool.and_false, Bool.false_and, Bool.and_true, beq_self_eq_true]; refine k _ _ _ _ _ _ ?_; clear k K))
    refine Done.mk (.inr rfl) Into.refl ?_ [] 0 ?_ ?_ ?_ ?_
    · rfl
    · rfl
    · simp only [go_sem, hn, decide_false]
    · trivial
    · rfl
  have q2 : (ds == 0) = true := by simpa using e2
  by_cases e3 : cols.length + rows.length = 0
  case neg =>
    have q : (IntKind.wrap .i64 ((cols.length : Int) + rows.length) == 0) = false := by simp only [beq_eq_false_iff_ne, ne_eq, w]; exact e3
    have hn : ¬ (s = [] ∧ dn = 0 ∧ ds = 0 ∧ cols.length + rows.length = 0) := by rintro ⟨a0, a1, a2, a3⟩; exact e3 a3
    repeat (first | refine st_end rfl ?_ | ((first | refine st1 fun K k => ?_ | refine st2 fun K k => ?_ | refine st3 rfl fun K k => ?_ | refine st4 fun K k => ?_); simp only [go_sem, encV, q, hrl, q0, q1, q2, Bool.and_false, Bool.false_and, Bool.and_true, beq_self_eq_true]; refine k _ _ _ _ _ _ ?_; clear k K))
    refine Done.mk (.inr rfl) Into.refl ?_ [] 0 ?_ ?_ ?_ ?_
    · rfl
    · rfl
    · simp only [go_sem, hn, decide_false]
    · trivial
    · rfl
  have q3 : (IntKind.wrap .i64 ((cols.length : Int) + rows.length) == 0) = true := by simp only [beq_iff_eq, w]; exact e3
  have hy : s = [] ∧ dn = 0 ∧ ds = 0 ∧ cols.length + rows.length = 0 := ⟨e0, e1, e2, e3⟩
  repeat (first | refine st_end rfl ?_ | ((first | refine st1 fun K k => ?_ | refine st2 fun K k => ?_ | refine st3 rfl fun K k => ?_ | refine st4 fun K k => ?_); simp only [go_sem, encV, hrl, q0, q1, q2, q3, Bool.and_true, Bool.true_and, beq_self_eq_true]; refine k _ _ _ _ _ _ ?_; clear k K))
  refine Done.mk (.inr rfl) Into.refl ?_ [] 0 ?_ ?_ ?_ ?_
  · rfl
  · rfl
  · rw [decide_eq_true hy]
    simp only [go_sem]
  · trivial
  · rfl
theorem f147_S (kd : Int) (s : List UInt8) (dn ds num : Int) (cols : List (List UInt8)) (rows : List (List Val)) :
    FnOK sys 147 [.agg (encV (.mk kd s dn ds num cols rows)), .v (.int .u8 83)] [] (.v (.bool (decide (num = 0 ∧ dn = 0 ∧ ds = 0 ∧ cols.length + rows.length = 0)))) [] := by
  refine FnOK.intro Tryz.f147 (by kernel_rfl) rfl rfl [.tmp 4] rfl 0 rfl (Nat.le_of_ble_eq_true rfl) rfl rfl fun E hN h0 => W.boundA 0 5 (es := cols.map fun s => [D.s s]) (sz := 1) rfl (by simp [encV, strsD]) fun hb => W.boundA 0 6 (es := encRs rows) (sz := 1) rfl (by simp [encV]) fun hb2 => W.code (N := 45) [2] hN ?_
  have hrl : (encRs rows).length = rows.length := by rw [encRs_map]; simp
  simp only [List.length_map, maxLen, hrl] at hb hb2
  have w : IntKind.wrap .i64 ((cols.length : Int) + rows.length) = 0 ↔ cols.length + rows.length = 0 := wrap_add0 _ _ hb hb2
  by_cases e0 : num = 0
  case neg =>
    have q : (num == 0) = false := by simpa using e0
    have hn : ¬ (num = 0 ∧ dn = 0 ∧ ds = 0 ∧ cols.length + rows.length = 0) := by rintro ⟨a0, a1, a2, a3⟩; exact e0 a0
    repeat (first | refine st_end rfl ?_ | ((first | refine st1 fun K k => ?_ | refine st2 fun K k => ?_ | refine st3 rfl fun K k => ?_ | refine st4 fun K k => ?_); simp only [go_sem, encV, q, hrl, Bool.and_false, Bool.false_and, Bool.and_true, beq_self_eq_true]; refine k _ _ _ _ _ _ ?_; clear k K))
    refine Done.mk (.inr rfl) Into.refl ?_ [] 0 ?_ ?_ ?_ ?_
    · rfl
    · rfl
    · simp only [go_sem, hn, decide_false]
    · trivial
    · rfl
  have q0 : (num == 0) = true := by simpa using e0
  by_cases e1 : dn = 0
  case neg =>
    have q : (dn == 0) = false := by simpa using e1
    have hn : ¬ (num = 0 ∧ dn = 0 ∧ ds = 0 ∧ cols.length + rows.length = 0) := by rintro ⟨a0, a1, a2, a3⟩; exact e1 a1
    repeat (first | refine st_end rfl ?_ | ((first | refine st1 fun K k => ?_ | refine st2 fun K k => ?_ | refine st3 rfl fun K k => ?_ | refine st4 fun K k => ?_); simp only [go_sem, encV, q, hrl, q0, Bool.and_false, Bool.false_and, Bool.and_true, beq_self_eq_true]; refine k _ _ _ _ _ _ ?_; clear k K))
    refine Done.mk (.inr rfl) Into.refl ?_ [] 0 ?_ ?_ ?_ ?_
    · rfl
    · rfl
    · simp only [go_sem, hn, decide_false]
    · trivial
    · rfl
  have q1 : (dn == 0) = true := by simpa using e1
  by_cases e2 : ds = 0
  case neg =>
    have q : (ds == 0) = false := by simpa using e2
    have hn : ¬ (num = 0 ∧ dn = 0 ∧ ds = 0 ∧ cols.length + rows.length = 0) := by rintro ⟨a0, a1, a2, a3⟩; exact e2 a2
    repeat (first | refine st_end rfl ?_ | ((first | refine st1 fun K k => ?_ | refine st2 fun K k => ?_ | refine st3 rfl fun K k => ?_ | refine st4 fun K k => ?_); simp only [go_sem, encV, q, hrl, q0, q1, Bool.and_false, Bool.false_and, Bool.and_true, beq_self_eq_true]; refine k _ _ _ _ _ _ ?_; clear k K))
    refine Done.mk (.inr rfl) Into.refl ?_ [] 0 ?_ ?_ ?_ ?_
    · rfl
    · rfl
    · simp only [go_sem, hn, decide_false]
    · trivial
    · rfl
  have q2 : (ds == 0) = true := by simpa using e2
  by_cases e3 : cols.length + rows.length = 0
  case neg =>
    have q : (IntKind.wrap .i64 ((cols.length : Int) + rows.length) == 0) = false := by simp only [beq_eq_false_iff_ne, ne_eq, w]; exact e3
    have hn : ¬ (num = 0 ∧ dn = 0 ∧ ds = 0 ∧ cols.length + rows.length = 0) := by rintro ⟨a0, a1, a2, a3⟩; exact e3 a3
    repeat (first | refine st_end rfl ?_ | ((first | refine st1 fun K k => ?_ | refine st2 fun K k => ?_ | refine st3 rfl fun K k => ?_ | refine st4 fun K k => ?_); simp only [go_sem, encV, q, hrl, q0, q1, q2, Bool.and_false, Bool.false_and, Bool.and_true, beq_self_eq_true]; refine k _ _ _ _ _ _ ?_; clear k K))
    refine Done.mk (.inr rfl) Into.refl ?_ [] 0 ?_ ?_ ?_ ?_
    · rfl
    · rfl
    · simp only [go_sem, hn, decide_false]
    · trivial
    · rfl
  have q3 : (IntKind.wrap .i64 ((cols.length : Int) + rows.length) == 0) = true := by simp only [beq_iff_eq, w]; exact e3
  have hy : num = 0 ∧ dn = 0 ∧ ds = 0 ∧ cols.length + rows.length = 0 := ⟨e0, e1, e2, e3⟩
  repeat (first | refine st_end rfl ?_ | ((first | refine st1 fun K k => ?_ | refine st2 fun K k => ?_ | refine st3 rfl fun K k => ?_ | refine st4 fun K k => ?_); simp only [go_sem, encV, hrl, q0, q1, q2, q3, Bool.and_true, Bool.true_and, beq_self_eq_true]; refine k _ _ _ _ _ _ ?_; clear k K))
  refine Done.mk (.inr rfl) Into.refl ?_ [] 0 ?_ ?_ ?_ ?_
  · rfl
  · rfl
  · rw [decide_eq_true hy]
    simp only [go_sem]
  · trivial
  · rfl
theorem f147_D (kd : Int) (s : List UInt8) (dn ds num : Int) (cols : List (List UInt8)) (rows : List (List Val)) :
    FnOK sys 147 [.agg (encV (.mk kd s dn ds num cols rows)), .v (.int .u8 68)] [] (.v (.bool (decide (num = 0 ∧ s = [] ∧ cols.length + rows.length = 0)))) [] := by
  refine FnOK.intro Tryz.f147 (by kernel_rfl) rfl rfl [.tmp 4] rfl 0 rfl (Nat.le_of_ble_eq_true rfl) rfl rfl fun E hN h0 => W.boundA 0 5 (es := cols.map fun s => [D.s s]) (sz := 1) rfl (by simp [encV, strsD]) fun hb => W.boundA 0 6 (es := encRs rows) (sz := 1) rfl (by simp [encV]) fun hb2 => W.code (N := 45) [2] hN ?_
  have hrl : (encRs rows).length = rows.length := by rw [encRs_map]; simp
  simp only [List.length_map, maxLen, hrl] at hb hb2
  have w : IntKind.wrap .i64 ((cols.length : Int) + rows.length) = 0 ↔ cols.length + rows.length = 0 := wrap_add0 _ _ hb hb2
  by_cases e0 : num = 0
  case neg =>
    have q : (num == 0) = false := by simpa using e0
    have hn : ¬ (num = 0 ∧ s = [] ∧ cols.length + rows.length = 0) := by rintro ⟨a0, a1, a2⟩; exact e0 a0
    repeat (first | refine st_end rfl ?_ | ((first | refine st1 fun K k => ?_ | refine st2 fun K k => ?_ | refine st3 rfl fun K k => ?_ | refine st4 fun K k => ?_); simp only [go_sem, encV, q, hrl, Bool.and_false, Bool.false_and, Bool.and_true, beq_self_eq_true]; refine k _ _ _ _ _ _ ?_; clear k K))
    refine Done.mk (.inr rfl) Into.refl ?_ [] 0 ?_ ?_ ?_ ?_
    · rfl
    · rfl
    · simp only [go_sem, hn, decide_false]
    · trivial
    · rfl
  have q0 : (num == 0) = true := by simpa using e0
  by_cases e1 : s = []
  case neg =>
    have q : (s == []) = false := by simpa using e1
    have hn : ¬ (num = 0 ∧ s = [] ∧ cols.length + rows.length = 0) := by rintro ⟨a0, a1, a2⟩; exact e1 a1
    repeat (first | refine st_end rfl ?_ | ((first | refine st1 fun K k => ?_ | refine st2 fun K k => ?_ | refine st3 rfl fun K k => ?_ | refine st4 fun K k => ?_); simp only [go_sem, encV, q, hrl, q0, Bool.and_false, Bool.false_and, Bool.and_true, beq_self_eq_true]; refine k _ _ _ _ _ _ ?_; clear k K))
    refine Done.mk (.inr rfl) Into.refl ?_ [] 0 ?_ ?_ ?_ ?_
    · rfl
    · rfl
    · simp only [go_sem, hn, decide_false]
    · trivial
    · rfl
  have q1 : (s == []) = true := by simpa using e1
  by_cases e2 : cols.length + rows.length = 0
  case neg =>
    have q : (IntKind.wrap .i64 ((cols.length : Int) + rows.length) == 0) = false := by simp only [beq_eq_false_iff_ne, ne_eq, w]; exact e2
    have hn : ¬ (num = 0 ∧ s = [] ∧ cols.length + rows.length = 0) := by rintro ⟨a0, a1, a2⟩; exact e2 a2
    repeat (first | refine st_end rfl ?_ | ((first | refine st1 fun K k => ?_ | refine st2 fun K k => ?_ | refine st3 rfl fun K k => ?_ | refine st4 fun K k => ?_); simp only [go_sem, encV, q, hrl, q0, q1, Bool.and_false, Bool.false_and, Bool.and_true, beq_self_eq_true]; refine k _ _ _ _ _ _ ?_; clear k K))
    refine Done.mk (.inr rfl) Into.refl ?_ [] 0 ?_ ?_ ?_ ?_
    · rfl
    · rfl
    · simp only [go_sem, hn, decide_false]
    · trivial
    · rfl
  have q2 : (IntKind.wrap .i64 ((cols.length : Int) + rows.length) == 0) = true := by simp only [beq_iff_eq, w]; exact e2
  have hy : num = 0 ∧ s = [] ∧ cols.length + rows.length = 0 := ⟨e0, e1, e2⟩
  repeat (first | refine st_end rfl ?_ | ((first | refine st1 fun K k => ?_ | refine st2 fun K k => ?_ | refine st3 rfl fun K k => ?_ | refine st4 fun K k => ?_); simp only [go_sem, encV, hrl, q0, q1, q2, Bool.and_true, Bool.true_and, beq_self_eq_true]; refine k _ _ _ _ _ _ ?_; clear k K))
  refine Done.mk (.inr rfl) Into.refl ?_ [] 0 ?_ ?_ ?_ ?_
  · rfl
  · rfl
  · rw [decide_eq_true hy]
    simp only [go_sem]
  · trivial
  · rfl
theorem f147_T (kd : Int) (s : List UInt8) (dn ds num : Int) (cols : List (List UInt8)) (rows : List (List Val)) :
    FnOK sys 147 [.agg (encV (.mk kd s dn ds num cols rows)), .v (.int .u8 84)] [] (.v (.bool (decide (num = 0 ∧ s = [] ∧ dn = 0 ∧ ds = 0)))) [] := by
  refine FnOK.intro Tryz.f147 (by kernel_rfl) rfl rfl [.tmp 4] rfl 0 rfl (Nat.le_of_ble_eq_true rfl) rfl rfl fun E hN h0 => W.boundA 0 5 (es := cols.map fun s => [D.s s]) (sz := 1) rfl (by simp [encV, strsD]) fun hb => W.boundA 0 6 (es := encRs rows) (sz := 1) rfl (by simp [encV]) fun hb2 => W.code (N := 45) [2] hN ?_
  have hrl : (encRs rows).length = rows.length := by rw [encRs_map]; simp
  simp only [List.length_map, maxLen, hrl] at hb hb2
  have w : IntKind.wrap .i64 ((cols.length : Int) + rows.length) = 0 ↔ cols.length + rows.length = 0 := wrap_add0 _ _ hb hb2
  by_cases e0 : num = 0
  case neg =>
    have q : (num == 0) = false := by simpa using e0
    have hn : ¬ (num = 0 ∧ s = [] ∧ dn = 0 ∧ ds = 0) := by rintro ⟨a0, a1, a2, a3⟩; exact e0 a0
    repeat (first | refine st_end rfl ?_ | ((first | refine st1 fun K k => ?_ | refine st2 fun K k => ?_ | refine st3 rfl fun K k => ?_ | refine st4 fun K k => ?_); simp only [go_sem, encV, q, hrl, Bool.and_false, Bool.false_and, Bool.and_true, beq_self_eq_true]; refine k _ _ _ _ _ _ ?_; clear k K))
    refine Done.mk (.inr rfl) Into.refl ?_ [] 0 ?_ ?_ ?_ ?_
    · rfl
    · rfl
    · simp only [go_sem, hn, decide_false]
    · trivial
    · rfl
  have q0 : (num == 0) = true := by simpa using e0
  by_cases e1 : s = []
  case neg =>
    have q : (s == []) = false := by simpa using e1
    have hn : ¬ (num = 0 ∧ s = [] ∧ dn = 0 ∧ ds = 0) := by rintro ⟨a0, a1, a2, a3⟩; exact e1 a1
    repeat (first | refine st_end rfl ?_ | ((first | refine st1 fun K k => ?_ | refine st2 fun K k => ?_ | refine st3 rfl fun K k => ?_ | refine st4 fun K k => ?_); simp only [go_sem, encV, q, hrl, q0, Bool.and_false, Bool.false_and, Bool.and_true, beq_self_eq_true]; refine k _ _ _ _ _ _ ?_; clear k K))
    refine Done.mk (.inr rfl) Into.refl ?_ [] 0 ?_ ?_ ?_ ?_
    · rfl
    · rfl
    · simp only [go_sem, hn, decide_false]
    · trivial
    · rfl
  have q1 : (s == []) = true := by simpa using e1
  by_cases e2 : dn = 0
  case neg =>
    have q : (dn == 0) = false := by simpa using e2
    have hn : ¬ (num = 0 ∧ s = [] ∧ dn = 0 ∧ ds = 0) := by rintro ⟨a0, a1, a2, a3⟩; exact e2 a2
    repeat (first | refine st_end rfl ?_ | ((first | refine st1 fun K k => ?_ | refine st2 fun K k => ?_ | refine st3 rfl fun K k => ?_ | refine st4 fun K k => ?_); simp only [go_sem, encV, q, hrl, q0, q1, Bool.and_false, Bool.false_and, Bool.and_true, beq_self_eq_true]; refine k _ _ _ _ _ _ ?_; clear k K))
    refine Done.mk (.inr rfl) Into.refl ?_ [] 0 ?_ ?_ ?_ ?_
    · rfl
    · rfl
    · simp only [go_sem, hn, decide_false]
    · trivial
    · rfl
  have q2 : (dn == 0) = true := by simpa using e2
  by_cases e3 : ds = 0
  case neg =>
    have q : (ds == 0) = false := by simpa using e3
    have hn : ¬ (num = 0 ∧ s = [] ∧ dn = 0 ∧ ds = 0) := by rintro ⟨a0, a1, a2, a3⟩; exact e3 a3
    repeat (first | refine st_end rfl ?_ | ((first | refine st1 fun K k => ?_ | refine st2 fun K k => ?_ | refine st3 rfl fun K k => ?_ | refine st4 fun K k => ?_); simp only [go_sem, encV, q, hrl, q0, q1, q2, Bool.and_false, Bool.false_and, Bool.and_true, beq_self_eq_true]; refine k _ _ _ _ _ _ ?_; clear k K))
    refine Done.mk (.inr rfl) Into.refl ?_ [] 0 ?_ ?_ ?_ ?_
    · rfl
    · rfl
    · simp only [go_sem, hn, decide_false]
    · trivial
    · rfl
  have q3 : (ds == 0) = true := by simpa using e3
  have hy : num = 0 ∧ s = [] ∧ dn = 0 ∧ ds = 0 := ⟨e0, e1, e2, e3⟩
  repeat (first | refine st_end rfl ?_ | ((first | refine st1 fun K k => ?_ | refine st2 fun K k => ?_ | refine st3 rfl fun K k => ?_ | refine st4 fun K k => ?_); simp only [go_sem, encV, hrl, q0, q1, q2, q3, Bool.and_true, Bool.true_and, beq_self_eq_true]; refine k _ _ _ _ _ _ ?_; clear k K))
  refine Done.mk (.inr rfl) Into.refl ?_ [] 0 ?_ ?_ ?_ ?_
  · rfl
  · rfl
  · rw [decide_eq_true hy]
    simp only [go_sem]
  · trivial
  · rfl
end Go.Proofs.YtjgooecohepkoaaGreatDoor
namespace Go.Proofs.YtjgooecohepkoaaGreatDoor
open Go Go.Abs
set_option linter.unusedSimpArgs false
set_option maxHeartbeats 2000000
/-- Is a decimal right. -/
def decR (n s : Int) : Bool := decide (0 ≤ s) && decide (s ≤ 6) && decide (-1000000000000000 ≤ n) && decide (n ≤ 1000000000000000) && (s == 0 || !(n.tmod 10 == 0))
theorem f153_ok (n s : Int) : FnOK sys 153 [.agg [.v (.int .i64 n), .v (.int .i64 s)]] [] (.v (.bool (decR n s))) [] := by
  refine FnOK.intro Tryz.f153 (by kernel_rfl) rfl rfl [.tmp 2] rfl 0 rfl (Nat.le_of_ble_eq_true rfl) rfl rfl fun E hN h0 => W.code (N := 32) [1] hN ?_
  unfold decR
  cases e1 : decide (0 ≤ s) with
  | false =>
    repeat (first | refine st_end rfl ?_ | ((first | refine st1 fun K k => ?_ | refine st2 fun K k => ?_ | refine st3 rfl fun K k => ?_ | refine st4 fun K k => ?_); simp only [go_sem, e1, ge_iff_le]; refine k _ _ _ _ _ _ ?_; clear k K))
    refine Done.mk (.inr rfl) Into.refl ?_ [] 0 ?_ ?_ ?_ ?_
    · rfl
    · rfl
    · simp only [go_sem, Bool.false_and, Bool.true_and, Bool.and_false, Bool.and_true, Bool.true_or, Bool.false_or, Bool.or_true, Bool.not_false, Bool.not_true, bne]
    · trivial
    · rfl
  | true =>
  cases e2 : decide (s ≤ 6) with
  | false =>
    repeat (first | refine st_end rfl ?_ | ((first | refine st1 fun K k => ?_ | refine st2 fun K k => ?_ | refine st3 rfl fun K k => ?_ | refine st4 fun K k => ?_); simp only [go_sem, e1, e2, ge_iff_le]; refine k _ _ _ _ _ _ ?_; clear k K))
    refine Done.mk (.inr rfl) Into.refl ?_ [] 0 ?_ ?_ ?_ ?_
    · rfl
    · rfl
    · simp only [go_sem, Bool.false_and, Bool.true_and, Bool.and_false, Bool.and_true, Bool.true_or, Bool.false_or, Bool.or_true, Bool.not_false, Bool.not_true, bne]
    · trivial
    · rfl
  | true =>
  cases e3 : decide (-1000000000000000 ≤ n) with
  | false =>
    repeat (first | refine st_end rfl ?_ | ((first | refine st1 fun K k => ?_ | refine st2 fun K k => ?_ | refine st3 rfl fun K k => ?_ | refine st4 fun K k => ?_); simp only [go_sem, e1, e2, e3, ge_iff_le]; refine k _ _ _ _ _ _ ?_; clear k K))
    refine Done.mk (.inr rfl) Into.refl ?_ [] 0 ?_ ?_ ?_ ?_
    · rfl
    · rfl
    · simp only [go_sem, Bool.false_and, Bool.true_and, Bool.and_false, Bool.and_true, Bool.true_or, Bool.false_or, Bool.or_true, Bool.not_false, Bool.not_true, bne]
    · trivial
    · rfl
  | true =>
  cases e4 : decide (n ≤ 1000000000000000) with
  | false =>
    repeat (first | refine st_end rfl ?_ | ((first | refine st1 fun K k => ?_ | refine st2 fun K k => ?_ | refine st3 rfl fun K k => ?_ | refine st4 fun K k => ?_); simp only [go_sem, e1, e2, e3, e4, ge_iff_le]; refine k _ _ _ _ _ _ ?_; clear k K))
    refine Done.mk (.inr rfl) Into.refl ?_ [] 0 ?_ ?_ ?_ ?_
    · rfl
    · rfl
    · simp only [go_sem, Bool.false_and, Bool.true_and, Bool.and_false, Bool.and_true, Bool.true_or, Bool.false_or, Bool.or_true, Bool.not_false, Bool.not_true, bne]
    · trivial
    · rfl
  | true =>
  cases e5 : (s == 0) with
  | true =>
    repeat (first | refine st_end rfl ?_ | ((first | refine st1 fun K k => ?_ | refine st2 fun K k => ?_ | refine st3 rfl fun K k => ?_ | refine st4 fun K k => ?_); simp only [go_sem, e1, e2, e3, e4, e5, ge_iff_le, bne, Bool.not_true]; refine k _ _ _ _ _ _ ?_; clear k K))
    refine Done.mk (.inr rfl) Into.refl ?_ [] 0 ?_ ?_ ?_ ?_
    · rfl
    · rfl
    · simp only [go_sem, Bool.false_and, Bool.true_and, Bool.and_false, Bool.and_true, Bool.true_or, Bool.false_or, Bool.or_true, Bool.not_false, Bool.not_true, bne]
    · trivial
    · rfl
  | false =>
  cases e6 : (n.tmod 10 == 0) with
  | true =>
    repeat (first | refine st_end rfl ?_ | ((first | refine st1 fun K k => ?_ | refine st2 fun K k => ?_ | refine st3 rfl fun K k => ?_ | refine st4 fun K k => ?_); simp only [go_sem, e1, e2, e3, e4, e5, e6, ge_iff_le, bne, Bool.not_true, Bool.not_false]; refine k _ _ _ _ _ _ ?_; clear k K))
    refine Done.mk (.inr rfl) Into.refl ?_ [] 0 ?_ ?_ ?_ ?_
    · rfl
    · rfl
    · simp only [go_sem, e6, Bool.false_and, Bool.true_and, Bool.and_false, Bool.and_true, Bool.true_or, Bool.false_or, Bool.or_true, Bool.not_false, Bool.not_true, bne]
    · trivial
    · rfl
  | false =>
    repeat (first | refine st_end rfl ?_ | ((first | refine st1 fun K k => ?_ | refine st2 fun K k => ?_ | refine st3 rfl fun K k => ?_ | refine st4 fun K k => ?_); simp only [go_sem, e1, e2, e3, e4, e5, e6, ge_iff_le, bne, Bool.not_true, Bool.not_false]; refine k _ _ _ _ _ _ ?_; clear k K))
    refine Done.mk (.inr rfl) Into.refl ?_ [] 0 ?_ ?_ ?_ ?_
    · rfl
    · rfl
    · simp only [go_sem, e6, Bool.false_and, Bool.true_and, Bool.and_false, Bool.and_true, Bool.true_or, Bool.false_or, Bool.or_true, Bool.not_false, Bool.not_true, bne]
    · trivial
    · rfl
end Go.Proofs.YtjgooecohepkoaaGreatDoor
namespace Go.Proofs.YtjgooecohepkoaaGreatDoor
open Go Go.Abs
set_option linter.unusedSimpArgs false
set_option maxHeartbeats 2000000
/-! ### Names -/
def letterB (c : UInt8) : Bool := (decide (97 ≤ (c.toNat : Int)) && decide ((c.toNat : Int) ≤ 122)) || (decide (65 ≤ (c.toNat : Int)) && decide ((c.toNat : Int) ≤ 90))
def otherB (c : UInt8) : Bool := ((c.toNat : Int) == 95) || (decide (48 ≤ (c.toNat : Int)) && decide ((c.toNat : Int) ≤ 57))
def nameC (k : Nat) (c : UInt8) : Bool := letterB c || (decide (0 < (k : Int)) && otherB c)
def nameFrom : Nat → List UInt8 → Bool
  | _, [] => true
  | k, c :: r => nameC k c && nameFrom (k + 1) r
def nameR (s : List UInt8) : Bool := nameFrom 0 s && decide (s ≠ []) && decide (s.length ≤ 20)
theorem nameFrom_drop {s : List UInt8} {k : Nat} {c : UInt8} (h : s[k]? = some c) : nameFrom k (s.drop k) = (nameC k c && nameFrom (k + 1) (s.drop (k + 1))) := by
  rw [drop_at h]; rfl
theorem f195_ok (s : List UInt8) (hs : s.length ≤ 1000000) : FnOK sys 195 [.s s] [] (.v (.bool (nameR s))) [] := by
  refine FnOK.intro Tryz.f195 (by kernel_rfl) rfl rfl [.tmp 2] rfl 0 rfl (Nat.le_of_ble_eq_true rfl) rfl rfl fun E hN h0 => W.code (N := 51) [6] hN ?_
  have hm : s.length ≤ maxLen := by unfold maxLen; omega
  repeat (first | refine st_end rfl ?_ | ((first | refine st1 fun K k => ?_ | refine st2 fun K k => ?_ | refine st3 rfl fun K k => ?_ | refine st4 fun K k => ?_); simp only [go_sem, hm]; refine k _ _ _ _ _ _ ?_; clear k K))
  refine W.loopP (fun i : Nat => ⟨[(0, .s s), (6, .sl (s.map byteD) 1), (7, .v (.int .i64 s.length)), (8, .v (.int .i64 i))], [], 0, []⟩)
    (fun i => i ≤ s.length ∧ nameFrom 0 s = nameFrom i (s.drop i)) (fun i => s.length - i) 0 ⟨by omega, rfl⟩ (Into.le ?_ trivial (Nat.le_refl _) rfl) fun i hi => W.code (N := 51) [6] hN ?_
  · simp only [go_sem]
    exact LeD.refl _
  repeat (first | refine st_end rfl ?_ | ((first | refine st1 fun K k => ?_ | refine st2 fun K k => ?_ | refine st3 rfl fun K k => ?_ | refine st4 fun K k => ?_); simp only [go_sem]; refine k _ _ _ _ _ _ ?_; clear k K))
  refine st_cond fun A B a b => ?_; simp only [go_sem]; refine ⟨fun g => a ?_, fun g => b ?_⟩ <;> clear a b A B
  · obtain ⟨c, hc⟩ := getS (l := s) (i := i) (by omega)
    have hn := nameFrom_drop hc
    have w5 : IntKind.wrap .i64 ((i : Int) + 1) = ((i + 1 : Nat) : Int) := wrapTo (by omega)
    repeat' (first | refine st_end rfl ?_ | ((first | refine st1 fun K k => ?_ | refine st2 fun K k => ?_ | refine st3 rfl fun K k => ?_ | refine st4 fun K k => ?_); simp only [go_sem, hc, byteD, w5, beq_iff_eq, beq_eq_false_iff_ne]; first | (refine k _ _ _ _ _ _ ?_; clear k K) | (refine ⟨fun _ => ?_, fun _ => ?_⟩ <;> (try simp only [go_sem, hc, byteD, w5, beq_iff_eq, beq_eq_false_iff_ne]) <;> (refine k _ _ _ _ _ _ ?_; clear k K)) | fail))
    all_goals first
      | refine ⟨i + 1, ⟨by omega, ?_⟩, by omega, Into.le ?_ trivial (Nat.le_refl _) rfl⟩
        · have h1 : nameC i c = true := by
            simp only [nameC, letterB, otherB, Bool.or_eq_true, Bool.and_eq_true, decide_eq_true_eq, beq_iff_eq]
            omega
          rw [hi.2, hn, h1]; rfl
        · simp only [go_sem]
      | repeat (first | refine st_end rfl ?_ | ((first | refine st1 fun K k => ?_ | refine st2 fun K k => ?_ | refine st3 rfl fun K k => ?_ | refine st4 fun K k => ?_); simp only [go_sem]; refine k _ _ _ _ _ _ ?_; clear k K))
        refine iq Into.refl (Done.t1 ?_)
        have h1 : nameC i c = false := by
          simp only [← Bool.not_eq_true, nameC, letterB, otherB, Bool.or_eq_true, Bool.and_eq_true, decide_eq_true_eq, beq_iff_eq]
          omega
        simp only [go_sem, nameR, hi.2, hn, h1, Bool.false_and]
  · refine iq Into.refl ?_
    obtain rfl : i = s.length := by omega
    have h2 : nameFrom 0 s = true := by rw [hi.2, List.drop_length]; rfl
    have e2 : decide ((s.length : Int) ≤ 20) = decide (s.length ≤ 20) := by rw [Bool.eq_iff_iff]; simp only [decide_eq_true_eq]; omega
    by_cases e : s = []
    · subst e
      repeat (first | refine st_end rfl ?_ | ((first | refine st1 fun K k => ?_ | refine st2 fun K k => ?_ | refine st3 rfl fun K k => ?_ | refine st4 fun K k => ?_); simp only [go_sem, beq_self_eq_true]; refine k _ _ _ _ _ _ ?_; clear k K))
      refine Done.t1 ?_
      simp only [go_sem, nameR]
      rfl
    · have e1 : (s == []) = false := by simpa using e
      repeat (first | refine st_end rfl ?_ | ((first | refine st1 fun K k => ?_ | refine st2 fun K k => ?_ | refine st3 rfl fun K k => ?_ | refine st4 fun K k => ?_); simp only [go_sem, e1, Bool.not_false]; refine k _ _ _ _ _ _ ?_; clear k K))
      refine Done.t1 ?_
      simp only [go_sem, nameR, h2, e2, e, not_false_eq_true, decide_true]
end Go.Proofs.YtjgooecohepkoaaGreatDoor
