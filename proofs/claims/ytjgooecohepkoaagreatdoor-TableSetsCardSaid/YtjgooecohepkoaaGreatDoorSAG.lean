/- Contracts of the functions that the statement reaches. -/
import Derived.Test.YtjgooecohepkoaaGreatDoorSAF
set_option linter.unusedVariables false
set_option linter.unusedSimpArgs false
namespace Go.Proofs.YtjgooecohepkoaaGreatDoor
open Go Go.Abs
set_option linter.unusedSimpArgs false
set_option maxHeartbeats 2000000
/-! ### The reference: right values -/
/-- The way in: a value, and the value that its fields of a kind make. -/
theorem f63_end (v u : Val) (q : Bool) (L : List D) (hL : LeL L (encV u)) (h : FnOK sys 18 [.agg (encV v), .agg (encV u)] [] (.v (.bool q)) []) : FnOK sys 18 [.agg (encV v), .agg L] [] (.v (.bool q)) [] :=
  h.leArgs (LeL.cons (LeD.refl _) (LeL.cons (LeD.agg hL) LeL.nil))
def Val.str : Val → List UInt8
  | .mk _ s _ _ _ _ _ => s
theorem encFlat (kd : Int) (s : List UInt8) (dn ds n : Int) : LeL [.v (.int .i64 kd), .s s, .v (.int .i64 dn), .v (.int .i64 ds), .v (.int .i64 n), .v (.slice none 0 0), .v (.slice none 0 0)] (encV (.mk kd s dn ds n [] [])) := by
  unfold encV
  refine LeL.cons (LeD.refl _) (LeL.cons (LeD.refl _) (LeL.cons (LeD.refl _) (LeL.cons (LeD.refl _) (LeL.cons (LeD.refl _) (LeL.cons (LeD.nil 1) (LeL.cons (LeD.nil 1) LeL.nil))))))
open Classical in
theorem eqN (kd : Int) (s : List UInt8) (dn ds num : Int) (cols : List (List UInt8)) (rows : List (List Val)) : decide (Val.mk kd s dn ds num cols rows = Val.mk kd [] 0 0 num [] []) = decide (s = [] ∧ dn = 0 ∧ ds = 0 ∧ cols.length + rows.length = 0) := by
  rw [Bool.eq_iff_iff]; simp
open Classical in
theorem eqS (kd : Int) (s : List UInt8) (dn ds num : Int) (cols : List (List UInt8)) (rows : List (List Val)) : decide (Val.mk kd s dn ds num cols rows = Val.mk kd s 0 0 0 [] []) = decide (num = 0 ∧ dn = 0 ∧ ds = 0 ∧ cols.length + rows.length = 0) := by
  rw [Bool.eq_iff_iff]; simp [and_comm, and_left_comm, and_assoc]
open Classical in
theorem eqD (kd : Int) (s : List UInt8) (dn ds num : Int) (cols : List (List UInt8)) (rows : List (List Val)) : decide (Val.mk kd s dn ds num cols rows = Val.mk kd [] dn ds 0 [] []) = decide (num = 0 ∧ s = [] ∧ cols.length + rows.length = 0) := by
  rw [Bool.eq_iff_iff]; simp [and_comm, and_left_comm, and_assoc]
open Classical in
theorem eqT (kd : Int) (s : List UInt8) (dn ds num : Int) (cols : List (List UInt8)) (rows : List (List Val)) : decide (Val.mk kd s dn ds num cols rows = Val.mk kd [] 0 0 0 cols rows) = decide (num = 0 ∧ s = [] ∧ dn = 0 ∧ ds = 0) := by
  rw [Bool.eq_iff_iff]; simp [and_comm, and_left_comm, and_assoc]
theorem zeroFlat (kd : Int) (cols : List (List UInt8)) (rows : List (List Val)) : LeL [.v (.int .i64 kd), .s [], .v (.int .i64 0), .v (.int .i64 0), .v (.int .i64 0), strsD cols, .sl (encRs rows) 1] (encV (.mk kd [] 0 0 0 cols rows)) := fun _ _ _ h => h
open Classical in
theorem f63_flat (v : Val) (h5 : v.kind ≠ 5) (hs : v.str.length ≤ 1000000) : FnOK sys 63 [.agg (encV v)] [] (.v (.bool (rightF v))) [] := by
  obtain ⟨kd, s, dn, ds, num, cols, rows⟩ := v
  simp only [Val.kind, Val.str] at h5 hs
  refine FnOK.intro Tryz.f63 (by kernel_rfl) rfl rfl [.tmp 2] rfl 0 rfl (Nat.le_of_ble_eq_true rfl) rfl rfl fun E hN h0 => W.code (N := 84) [1] hN ?_
  by_cases k0 : kd = 0
  · subst k0
    have h18 := f63_end (.mk 0 s dn ds num cols rows) (.mk 0 [] 0 0 num [] []) _ _ (encFlat 0 [] 0 0 num) (f18_ok _ _)
    rw [eqN] at h18
    simp only [encV] at h18 ⊢
    repeat' (first | refine st_end rfl ?_ | ((first | refine st1 fun K k => ?_ | refine st2 fun K k => ?_ | refine st3 rfl fun K k => ?_ | refine st4 fun K k => ?_); simp only [go_sem, beq_self_eq_true, ge_iff_le]; first | (refine k _ _ _ _ _ _ ?_; clear k K) | (refine ⟨fun _ => ?_, fun _ => ?_⟩ <;> (try simp only [go_sem, beq_self_eq_true, ge_iff_le]) <;> (refine k _ _ _ _ _ _ ?_; clear k K)) | fail))
    all_goals first
      | (first | refine st1 fun K k => ?_ | refine st3 rfl fun K k => ?_); simp only [go_sem]
        refine callK h18 (by simp only [go_sem]) ?_
        refine k _ _ _ _ _ _ ?_; clear k K
        repeat (first | refine st_end rfl ?_ | ((first | refine st1 fun K k => ?_ | refine st2 fun K k => ?_ | refine st3 rfl fun K k => ?_ | refine st4 fun K k => ?_); simp only [go_sem]; refine k _ _ _ _ _ _ ?_; clear k K))
        refine Done.t1 ?_
        simp only [go_sem, rightF]
        simp_all
      | repeat (first | refine st_end rfl ?_ | ((first | refine st1 fun K k => ?_ | refine st2 fun K k => ?_ | refine st3 rfl fun K k => ?_ | refine st4 fun K k => ?_); simp only [go_sem]; refine k _ _ _ _ _ _ ?_; clear k K))
        refine Done.t1 ?_
        simp only [go_sem, rightF]
        simp_all <;> omega
  have e0 : (kd == 0) = false := by simpa using k0
  by_cases k1 : kd = 1
  · subst k1
    have h18 := f63_end (.mk 1 s dn ds num cols rows) (.mk 1 s 0 0 0 [] []) _ _ (encFlat 1 s 0 0 0) (f18_ok _ _)
    rw [eqS] at h18
    simp only [encV] at h18 ⊢
    repeat (first | refine st_end rfl ?_ | ((first | refine st1 fun K k => ?_ | refine st2 fun K k => ?_ | refine st3 rfl fun K k => ?_ | refine st4 fun K k => ?_); simp only [go_sem]; refine k _ _ _ _ _ _ ?_; clear k K))
    (first | refine st1 fun K k => ?_ | refine st3 rfl fun K k => ?_); simp only [go_sem]; refine callP (f103_ok s hs) ?_; refine k _ _ _ _ _ _ ?_; clear k K
    cases hp : plainR s with
    | true =>
      repeat (first | refine st_end rfl ?_ | ((first | refine st1 fun K k => ?_ | refine st2 fun K k => ?_ | refine st3 rfl fun K k => ?_ | refine st4 fun K k => ?_); simp only [go_sem]; refine k _ _ _ _ _ _ ?_; clear k K))
      (first | refine st1 fun K k => ?_ | refine st3 rfl fun K k => ?_); simp only [go_sem]
      refine callK h18 (by simp only [go_sem]) ?_
      refine k _ _ _ _ _ _ ?_; clear k K
      repeat (first | refine st_end rfl ?_ | ((first | refine st1 fun K k => ?_ | refine st2 fun K k => ?_ | refine st3 rfl fun K k => ?_ | refine st4 fun K k => ?_); simp only [go_sem]; refine k _ _ _ _ _ _ ?_; clear k K))
      refine Done.t1 ?_
      simp only [go_sem, rightF, hp]
    | false =>
      repeat (first | refine st_end rfl ?_ | ((first | refine st1 fun K k => ?_ | refine st2 fun K k => ?_ | refine st3 rfl fun K k => ?_ | refine st4 fun K k => ?_); simp only [go_sem]; refine k _ _ _ _ _ _ ?_; clear k K))
      refine Done.t1 ?_
      simp only [go_sem, rightF, hp, Bool.and_false]
  have e1 : (kd == 1) = false := by simpa using k1
  by_cases k2 : kd = 2
  · subst k2
    have h18 := f63_end (.mk 2 s dn ds num cols rows) (.mk 2 [] dn ds 0 [] []) _ _ (encFlat 2 [] dn ds 0) (f18_ok _ _)
    rw [eqD] at h18
    simp only [encV] at h18 ⊢
    repeat (first | refine st_end rfl ?_ | ((first | refine st1 fun K k => ?_ | refine st2 fun K k => ?_ | refine st3 rfl fun K k => ?_ | refine st4 fun K k => ?_); simp only [go_sem]; refine k _ _ _ _ _ _ ?_; clear k K))
    (first | refine st1 fun K k => ?_ | refine st3 rfl fun K k => ?_); simp only [go_sem]; refine callP (f104_ok dn ds) ?_; refine k _ _ _ _ _ _ ?_; clear k K
    cases hp : decR dn ds with
    | true =>
      repeat (first | refine st_end rfl ?_ | ((first | refine st1 fun K k => ?_ | refine st2 fun K k => ?_ | refine st3 rfl fun K k => ?_ | refine st4 fun K k => ?_); simp only [go_sem]; refine k _ _ _ _ _ _ ?_; clear k K))
      (first | refine st1 fun K k => ?_ | refine st3 rfl fun K k => ?_); simp only [go_sem]
      refine callK h18 (by simp only [go_sem]) ?_
      refine k _ _ _ _ _ _ ?_; clear k K
      repeat (first | refine st_end rfl ?_ | ((first | refine st1 fun K k => ?_ | refine st2 fun K k => ?_ | refine st3 rfl fun K k => ?_ | refine st4 fun K k => ?_); simp only [go_sem]; refine k _ _ _ _ _ _ ?_; clear k K))
      refine Done.t1 ?_
      simp only [go_sem, rightF, hp]
    | false =>
      repeat (first | refine st_end rfl ?_ | ((first | refine st1 fun K k => ?_ | refine st2 fun K k => ?_ | refine st3 rfl fun K k => ?_ | refine st4 fun K k => ?_); simp only [go_sem]; refine k _ _ _ _ _ _ ?_; clear k K))
      refine Done.t1 ?_
      simp only [go_sem, rightF, hp, Bool.and_false]
  have e2 : (kd == 2) = false := by simpa using k2
  by_cases k3 : kd = 3
  · subst k3
    have h18 := f63_end (.mk 3 s dn ds num cols rows) (.mk 3 [] 0 0 num [] []) _ _ (encFlat 3 [] 0 0 num) (f18_ok _ _)
    rw [eqN] at h18
    simp only [encV] at h18 ⊢
    repeat' (first | refine st_end rfl ?_ | ((first | refine st1 fun K k => ?_ | refine st2 fun K k => ?_ | refine st3 rfl fun K k => ?_ | refine st4 fun K k => ?_); simp only [go_sem, beq_self_eq_true, ge_iff_le]; first | (refine k _ _ _ _ _ _ ?_; clear k K) | (refine ⟨fun _ => ?_, fun _ => ?_⟩ <;> (try simp only [go_sem, beq_self_eq_true, ge_iff_le]) <;> (refine k _ _ _ _ _ _ ?_; clear k K)) | fail))
    all_goals first
      | (first | refine st1 fun K k => ?_ | refine st3 rfl fun K k => ?_); simp only [go_sem]
        refine callK h18 (by simp only [go_sem]) ?_
        refine k _ _ _ _ _ _ ?_; clear k K
        repeat (first | refine st_end rfl ?_ | ((first | refine st1 fun K k => ?_ | refine st2 fun K k => ?_ | refine st3 rfl fun K k => ?_ | refine st4 fun K k => ?_); simp only [go_sem]; refine k _ _ _ _ _ _ ?_; clear k K))
        refine Done.t1 ?_
        simp only [go_sem, rightF]
        simp_all
      | repeat (first | refine st_end rfl ?_ | ((first | refine st1 fun K k => ?_ | refine st2 fun K k => ?_ | refine st3 rfl fun K k => ?_ | refine st4 fun K k => ?_); simp only [go_sem]; refine k _ _ _ _ _ _ ?_; clear k K))
        refine Done.t1 ?_
        simp only [go_sem, rightF]
        simp_all <;> omega
  have e3 : (kd == 3) = false := by simpa using k3
  by_cases k4 : kd = 4
  · subst k4
    have h18 := f63_end (.mk 4 s dn ds num cols rows) (.mk 4 [] 0 0 num [] []) _ _ (encFlat 4 [] 0 0 num) (f18_ok _ _)
    rw [eqN] at h18
    simp only [encV] at h18 ⊢
    by_cases n0 : num = 0
    · subst n0
      repeat (first | refine st_end rfl ?_ | ((first | refine st1 fun K k => ?_ | refine st2 fun K k => ?_ | refine st3 rfl fun K k => ?_ | refine st4 fun K k => ?_); simp only [go_sem, beq_self_eq_true]; refine k _ _ _ _ _ _ ?_; clear k K))
      (first | refine st1 fun K k => ?_ | refine st3 rfl fun K k => ?_); simp only [go_sem]
      refine callK h18 (by simp only [go_sem]) ?_
      refine k _ _ _ _ _ _ ?_; clear k K
      repeat (first | refine st_end rfl ?_ | ((first | refine st1 fun K k => ?_ | refine st2 fun K k => ?_ | refine st3 rfl fun K k => ?_ | refine st4 fun K k => ?_); simp only [go_sem]; refine k _ _ _ _ _ _ ?_; clear k K))
      refine Done.t1 ?_
      simp only [go_sem, rightF]
      simp
    by_cases n1 : num = 1
    · subst n1
      repeat (first | refine st_end rfl ?_ | ((first | refine st1 fun K k => ?_ | refine st2 fun K k => ?_ | refine st3 rfl fun K k => ?_ | refine st4 fun K k => ?_); simp only [go_sem, beq_self_eq_true]; refine k _ _ _ _ _ _ ?_; clear k K))
      (first | refine st1 fun K k => ?_ | refine st3 rfl fun K k => ?_); simp only [go_sem]
      refine callK h18 (by simp only [go_sem]) ?_
      refine k _ _ _ _ _ _ ?_; clear k K
      repeat (first | refine st_end rfl ?_ | ((first | refine st1 fun K k => ?_ | refine st2 fun K k => ?_ | refine st3 rfl fun K k => ?_ | refine st4 fun K k => ?_); simp only [go_sem]; refine k _ _ _ _ _ _ ?_; clear k K))
      refine Done.t1 ?_
      simp only [go_sem, rightF]
      simp
    · have q0 : (num == 0) = false := by simpa using n0
      have q1 : (num == 1) = false := by simpa using n1
      repeat (first | refine st_end rfl ?_ | ((first | refine st1 fun K k => ?_ | refine st2 fun K k => ?_ | refine st3 rfl fun K k => ?_ | refine st4 fun K k => ?_); simp only [go_sem, q0, q1]; refine k _ _ _ _ _ _ ?_; clear k K))
      refine Done.t1 ?_
      simp only [go_sem, rightF, q0, q1, Bool.or_self, Bool.and_false]
  have e4 : (kd == 4) = false := by simpa using k4
  have e5 : (kd == 5) = false := by simpa using h5
  simp only [encV]
  repeat (first | refine st_end rfl ?_ | ((first | refine st1 fun K k => ?_ | refine st2 fun K k => ?_ | refine st3 rfl fun K k => ?_ | refine st4 fun K k => ?_); simp only [go_sem, e0, e1, e2, e3, e4, e5]; refine k _ _ _ _ _ _ ?_; clear k K))
  refine Done.t1 ?_
  simp only [go_sem, rightF, k0, k1, k2, k3, k4]
/-- The rows of a right table, by the reference. -/
theorem f105_ok (cols : List (List UInt8)) (rows : List (List Val)) (hs : ∀ c ∈ cols, c.length ≤ 1000000) (hr : ∀ row ∈ rows, ∀ v ∈ row, v.str.length ≤ 1000000) : FnOK sys 105 [strsD cols, rowsV rows] [] (.v (.bool (rowsR cols rows))) [] := by
  refine FnOK.intro Tryz.f105 (by kernel_rfl) rfl rfl [.tmp 4] rfl 0 rfl (Nat.le_of_ble_eq_true rfl) rfl rfl fun E hN h0 => W.bound 0 rfl fun hb => W.bound 1 rfl fun hb2 => W.code (N := 65) [] hN ?_
  simp only [List.length_map, maxLen] at hb hb2
  repeat (first | refine st_end rfl ?_ | ((first | refine st1 fun K k => ?_ | refine st2 fun K k => ?_ | refine st3 rfl fun K k => ?_ | refine st4 fun K k => ?_); simp only [go_sem]; refine k _ _ _ _ _ _ ?_; clear k K))
  (first | refine st1 fun K k => ?_ | refine st3 rfl fun K k => ?_); simp only [go_sem]; refine callP (f160_ok cols hs) ?_; refine k _ _ _ _ _ _ ?_; clear k K
  cases hn : (cols.all nameR && decide cols.Nodup) with
  | false =>
    repeat (first | refine st_end rfl ?_ | ((first | refine st1 fun K k => ?_ | refine st2 fun K k => ?_ | refine st3 rfl fun K k => ?_ | refine st4 fun K k => ?_); simp only [go_sem]; refine k _ _ _ _ _ _ ?_; clear k K))
    refine Done.t1 ?_
    simp only [go_sem, rowsR, hn, Bool.false_and, Bool.and_false]
  | true =>
  by_cases h1 : (8 : Int) < cols.length
  · repeat (first | refine st_end rfl ?_ | ((first | refine st1 fun K k => ?_ | refine st2 fun K k => ?_ | refine st3 rfl fun K k => ?_ | refine st4 fun K k => ?_); simp only [go_sem, h1, decide_true]; refine k _ _ _ _ _ _ ?_; clear k K))
    refine Done.t1 ?_
    simp only [go_sem, rowsR, show ¬ cols.length ≤ 8 by omega, decide_false, Bool.false_and]
  by_cases h2 : (100 : Int) < rows.length
  · repeat (first | refine st_end rfl ?_ | ((first | refine st1 fun K k => ?_ | refine st2 fun K k => ?_ | refine st3 rfl fun K k => ?_ | refine st4 fun K k => ?_); simp only [go_sem, h1, h2, decide_true, decide_false]; refine k _ _ _ _ _ _ ?_; clear k K))
    refine Done.t1 ?_
    simp only [go_sem, rowsR, show ¬ rows.length ≤ 100 by omega, decide_false, Bool.false_and, Bool.and_false]
  repeat (first | refine st_end rfl ?_ | ((first | refine st1 fun K k => ?_ | refine st2 fun K k => ?_ | refine st3 rfl fun K k => ?_ | refine st4 fun K k => ?_); simp only [go_sem, h1, h2, decide_false]; refine k _ _ _ _ _ _ ?_; clear k K))
  refine W.loopP (fun i : Nat => ⟨[(0, strsD cols), (1, rowsV rows), (6, .v (.int .i64 i))], [], 0, []⟩)
    (fun i => i ≤ rows.length ∧ (rows.take i).all (rowR cols) = true) (fun i => rows.length - i) 0 ⟨by omega, rfl⟩ (Into.le ?_ trivial (Nat.le_refl _) rfl) fun i hi => W.code (N := 65) [] hN ?_
  · simp only [go_sem]
    exact LeD.refl _
  repeat (first | refine st_end rfl ?_ | ((first | refine st1 fun K k => ?_ | refine st2 fun K k => ?_ | refine st3 rfl fun K k => ?_ | refine st4 fun K k => ?_); simp only [go_sem]; refine k _ _ _ _ _ _ ?_; clear k K))
  refine st_cond fun A B a b => ?_; simp only [go_sem]; refine ⟨fun g => a ?_, fun g => b ?_⟩ <;> clear a b A B
  · obtain ⟨x, hx⟩ := getS (l := rows) (i := i) (by omega)
    have e5 : rows.take (i + 1) = rows.take i ++ [x] := by rw [List.take_add_one, hx]; rfl
    have hfalse : rowR cols x = false → rows.all (rowR cols) = false := by
      intro hq
      rw [← Bool.not_eq_true, List.all_eq_true]
      intro h
      rw [h x (List.mem_of_getElem? hx)] at hq; cases hq
    by_cases hl : x.length = cols.length
    case neg =>
      have hl' : ((x.length : Int) != cols.length) = true := by simp; omega
      repeat (first | refine st_end rfl ?_ | ((first | refine st1 fun K k => ?_ | refine st2 fun K k => ?_ | refine st3 rfl fun K k => ?_ | refine st4 fun K k => ?_); simp only [go_sem, hx, hl']; refine k _ _ _ _ _ _ ?_; clear k K))
      refine iq Into.refl (Done.t1 ?_)
      simp only [go_sem, rowsR, hfalse (by simp [rowR, hl]), Bool.and_false]
    have hl' : ((x.length : Int) != cols.length) = false := by simp [hl]
    repeat (first | refine st_end rfl ?_ | ((first | refine st1 fun K k => ?_ | refine st2 fun K k => ?_ | refine st3 rfl fun K k => ?_ | refine st4 fun K k => ?_); simp only [go_sem, hx, hl']; refine k _ _ _ _ _ _ ?_; clear k K))
    refine W.loopP (fun j : Nat => ⟨[(0, strsD cols), (1, rowsV rows), (6, .v (.int .i64 i)), (7, .v (.int .i64 j))], [], 0, []⟩)
      (fun j => j ≤ x.length ∧ (x.take j).any (fun v => v.kind == 5 || !rightF v) = false) (fun j => x.length - j) 0 ⟨by omega, rfl⟩ (Into.le ?_ trivial (Nat.le_refl _) rfl) fun j hj => W.code (N := 65) [] hN ?_
    · simp only [go_sem]
      exact LeD.refl _
    repeat (first | refine st_end rfl ?_ | ((first | refine st1 fun K k => ?_ | refine st2 fun K k => ?_ | refine st3 rfl fun K k => ?_ | refine st4 fun K k => ?_); simp only [go_sem, hx]; refine k _ _ _ _ _ _ ?_; clear k K))
    refine st_cond fun A B a b => ?_; simp only [go_sem]; refine ⟨fun g => a ?_, fun g => b ?_⟩ <;> clear a b A B
    · obtain ⟨y, hy⟩ := getS (l := x) (i := j) (by omega)
      have e6 : x.take (j + 1) = x.take j ++ [y] := by rw [List.take_add_one, hy]; rfl
      have hbad : (y.kind == 5 || !rightF y) = true → rowR cols x = false := by
        intro hq
        have : (x.any fun v => v.kind == 5 || !rightF v) = true := by rw [List.any_eq_true]; exact ⟨y, List.mem_of_getElem? hy, hq⟩
        simp only [rowR, this, Bool.not_true, Bool.and_false]
      have hstr := hr x (List.mem_of_getElem? hx) y (List.mem_of_getElem? hy)
      have hf := f63_flat y
      obtain ⟨kd, s, dn, ds, num, c', r'⟩ := y
      by_cases h5 : kd = 5
      · have e : (kd == 5) = true := by simpa using h5
        repeat (first | refine st_end rfl ?_ | ((first | refine st1 fun K k => ?_ | refine st2 fun K k => ?_ | refine st3 rfl fun K k => ?_ | refine st4 fun K k => ?_); simp only [go_sem, hx, hy, encV_len, encV_take, Nat.le_refl, encV, e]; refine k _ _ _ _ _ _ ?_; clear k K))
        refine iq Into.refl (iq Into.refl (Done.t1 ?_))
        simp only [go_sem, rowsR, hfalse (hbad (by simp [Val.kind, h5])), Bool.and_false]
      · have e : (kd == 5) = false := by simpa using h5
        have hf' := hf h5 hstr
        simp only [encV] at hf'
        repeat (first | refine st_end rfl ?_ | ((first | refine st1 fun K k => ?_ | refine st2 fun K k => ?_ | refine st3 rfl fun K k => ?_ | refine st4 fun K k => ?_); simp only [go_sem, hx, hy, encV_len, encV_take, Nat.le_refl, encV, e]; refine k _ _ _ _ _ _ ?_; clear k K))
        (first | refine st1 fun K k => ?_ | refine st3 rfl fun K k => ?_); simp only [go_sem]; refine callP (hf') ?_; refine k _ _ _ _ _ _ ?_; clear k K
        cases hq : rightF (.mk kd s dn ds num c' r') with
        | false =>
          repeat (first | refine st_end rfl ?_ | ((first | refine st1 fun K k => ?_ | refine st2 fun K k => ?_ | refine st3 rfl fun K k => ?_ | refine st4 fun K k => ?_); simp only [go_sem]; refine k _ _ _ _ _ _ ?_; clear k K))
          refine iq Into.refl (iq Into.refl (Done.t1 ?_))
          simp only [go_sem, rowsR, hfalse (hbad (by simp [hq])), Bool.and_false]
        | true =>
          have w5 : IntKind.wrap .i64 ((j : Int) + 1) = ((j + 1 : Nat) : Int) := wrapTo (by omega)
          repeat (first | refine st_end rfl ?_ | ((first | refine st1 fun K k => ?_ | refine st2 fun K k => ?_ | refine st3 rfl fun K k => ?_ | refine st4 fun K k => ?_); simp only [go_sem, w5]; refine k _ _ _ _ _ _ ?_; clear k K))
          refine ⟨j + 1, ⟨by omega, ?_⟩, by omega, Into.le ?_ trivial (Nat.le_refl _) rfl⟩
          · rw [e6, List.any_append, hj.2]; simp [hq, Val.kind, h5]
          · simp only [go_sem]
    · obtain rfl : j = x.length := by omega
      rw [List.take_length] at hj
      refine iq Into.refl ?_
      have w5 : IntKind.wrap .i64 ((i : Int) + 1) = ((i + 1 : Nat) : Int) := wrapTo (by omega)
      repeat (first | refine st_end rfl ?_ | ((first | refine st1 fun K k => ?_ | refine st2 fun K k => ?_ | refine st3 rfl fun K k => ?_ | refine st4 fun K k => ?_); simp only [go_sem, w5]; refine k _ _ _ _ _ _ ?_; clear k K))
      refine ⟨i + 1, ⟨by omega, ?_⟩, by omega, Into.le ?_ trivial (Nat.le_refl _) rfl⟩
      · rw [e5, List.all_append, hi.2]; simp [rowR, hl, hj.2]
      · simp only [go_sem]
  · obtain rfl : i = rows.length := by omega
    rw [List.take_length] at hi
    refine iq Into.refl ?_
    repeat (first | refine st_end rfl ?_ | ((first | refine st1 fun K k => ?_ | refine st2 fun K k => ?_ | refine st3 rfl fun K k => ?_ | refine st4 fun K k => ?_); simp only [go_sem]; refine k _ _ _ _ _ _ ?_; clear k K))
    refine Done.t1 ?_
    simp only [go_sem, rowsR, hn, hi.2, decide_true, show cols.length ≤ 8 by omega, show rows.length ≤ 100 by omega]
/-- No text is too long to be held. -/
def Val.held : Val → Prop
  | .mk _ s _ _ _ c r => s.length ≤ 1000000 ∧ (∀ x ∈ c, x.length ≤ 1000000) ∧ ∀ row ∈ r, ∀ v ∈ row, v.str.length ≤ 1000000
open Classical in
theorem f63_ok (v : Val) (hv : v.held) : FnOK sys 63 [.agg (encV v)] [] (.v (.bool (rightV v))) [] := by
  obtain ⟨kd, s, dn, ds, num, cols, rows⟩ := v
  obtain ⟨hs, hc, hr⟩ := hv
  by_cases h5 : kd = 5
  case neg =>
    have := f63_flat (.mk kd s dn ds num cols rows) h5 hs
    simpa only [rightV, if_neg h5] using this
  subst h5
  refine FnOK.intro Tryz.f63 (by kernel_rfl) rfl rfl [.tmp 2] rfl 0 rfl (Nat.le_of_ble_eq_true rfl) rfl rfl fun E hN h0 => W.code (N := 84) [1] hN ?_
  have h18 := f63_end (.mk 5 s dn ds num cols rows) (.mk 5 [] 0 0 0 cols rows) _ _ (zeroFlat 5 cols rows) (f18_ok _ _)
  have h105 := f105_ok cols rows hc hr
  have hrl : encRs rows = rows.map fun r => [rowV r] := by rw [encRs_map, List.map_map]; rfl
  rw [eqT] at h18
  simp only [encV, hrl] at h18 ⊢
  repeat (first | refine st_end rfl ?_ | ((first | refine st1 fun K k => ?_ | refine st2 fun K k => ?_ | refine st3 rfl fun K k => ?_ | refine st4 fun K k => ?_); simp only [go_sem, beq_self_eq_true]; refine k _ _ _ _ _ _ ?_; clear k K))
  (first | refine st1 fun K k => ?_ | refine st3 rfl fun K k => ?_); simp only [go_sem]; refine callP (h105) ?_; refine k _ _ _ _ _ _ ?_; clear k K
  cases hp : rowsR cols rows with
  | true =>
    repeat (first | refine st_end rfl ?_ | ((first | refine st1 fun K k => ?_ | refine st2 fun K k => ?_ | refine st3 rfl fun K k => ?_ | refine st4 fun K k => ?_); simp only [go_sem]; refine k _ _ _ _ _ _ ?_; clear k K))
    (first | refine st1 fun K k => ?_ | refine st3 rfl fun K k => ?_); simp only [go_sem]
    refine callK h18 (by simp only [go_sem]) ?_
    refine k _ _ _ _ _ _ ?_; clear k K
    repeat (first | refine st_end rfl ?_ | ((first | refine st1 fun K k => ?_ | refine st2 fun K k => ?_ | refine st3 rfl fun K k => ?_ | refine st4 fun K k => ?_); simp only [go_sem]; refine k _ _ _ _ _ _ ?_; clear k K))
    refine Done.t1 ?_
    simp only [go_sem, rightV, hp]
  | false =>
    repeat (first | refine st_end rfl ?_ | ((first | refine st1 fun K k => ?_ | refine st2 fun K k => ?_ | refine st3 rfl fun K k => ?_ | refine st4 fun K k => ?_); simp only [go_sem]; refine k _ _ _ _ _ _ ?_; clear k K))
    refine Done.t1 ?_
    simp only [go_sem, rightV, hp, Bool.and_false]
end Go.Proofs.YtjgooecohepkoaaGreatDoor
namespace Go.Proofs.YtjgooecohepkoaaGreatDoor
open Go Go.Abs
set_option linter.unusedSimpArgs false
set_option maxHeartbeats 2000000
/-! ### The cells of a column -/
def idm (S : Store) : List (Nat × Nat) := S.map fun x => (x.1, x.1)
theorem weakS_put (A T : Store) : ∀ {T' : Store}, weakS T T' → weakS (putAll A T) T'
  | [], _ => trivial
  | (l, o) :: r, h => ⟨by rw [look_putAll, h.1]; rfl, weakS_put A T h.2⟩
theorem leS_of_weak {S : Store} : ∀ {T : Store}, weakS S T → leS S T
  | [], _ => trivial
  | (l, o) :: r, h => ⟨by rw [h.1]; exact LeO.refl o, leS_of_weak h.2⟩
theorem f53_ok (rows : List (List Val)) (c : Int) : FnOK sys 53 [rowsV rows, .v (.int .i64 c)] [] (.fn (.func 100) [] [.ep [rowsV rows], .ep [.v (.int .i64 c)]]) [] := by
  refine FnOK.intro Tryz.f53 (by kernel_rfl) rfl rfl [.tmp 4] rfl 0 rfl (Nat.le_of_ble_eq_true rfl) rfl rfl fun E hN h0 => W.code (N := 6) [2, 3] hN ?_
  repeat (first | refine st_end rfl ?_ | ((first | refine st1 fun K k => ?_ | refine st2 fun K k => ?_ | refine st3 rfl fun K k => ?_ | refine st4 fun K k => ?_); simp only [go_sem]; refine k _ _ _ _ _ _ ?_; clear k K))
  refine Done.t1 ?_
  simp only [go_sem]
theorem W.boundE {Y : Sy} {E : Env Y} {st : St} {Q : Exit → St → Prop} {c : Code} (t i : Nat) {cs : List D} {es : List (List D)} {sz : Nat} (ht : getT st.σ t = .ep cs) (hc : cs[i]? = some (.sl es sz)) (h : es.length ≤ maxLen → W E c st Q) : W E c st Q := fun a w g hs => by
  have := hs.tm t
  rw [ht] at this
  simp only [Rep] at this
  obtain ⟨ad, vs, _, _, _, hl⟩ := this
  obtain ⟨x, _, hx⟩ := hl.get hc
  simp only [Rep] at hx
  obtain ⟨a', c', _, h1, h2, _⟩ := hx
  exact h (Nat.le_trans h1 h2) a w g hs
theorem look_some_of_mem {S : Store} {a : Nat} {o : AO} (h : (a, o) ∈ S) : (Abs.look S a).isSome = true := by
  cases hq : Abs.look S a with
  | some _ => rfl
  | none => exact absurd (List.mem_map.2 ⟨(a, o), h, rfl⟩) (look_none.1 hq)
theorem f100_ok (l n0 : Nat) (rows : List (List Val)) (c : Nat) (hc : ∀ r ∈ rows, c < r.length) (f : Nat → Store) (go : Nat → Bool) (k : Nat) (hk : k ≤ rows.length) (hgo : ∀ i, i + 1 < k → go i = true) (hend : k = rows.length ∨ (0 < k ∧ go (k - 1) = false))
    (hnm : ∀ i, namesL (f i) = namesL (f 0)) (hw : ∀ i, weakS (f i) (f i)) (hl : (Abs.look (f 0) l).isSome = true) (hlt : ((f 0).all fun x => Nat.blt x.1 n0) = true) (hid : mapS (subO (idP (f 0))) (f 0) = f 0) (hren : renB n0 (f k) n0 (idm (f k)) = true) (hsub : subS (idm (f k)) (f k) (idm (f k)) = f k)
    (hround : ∀ i r v, i < k → rows[i]? = some r → r[c]? = some v → RdOK sys l [.v (.int .i64 i), .agg (encV v)] (f i) (.v (.bool (go i))) (f (i + 1))) :
    FnOK sys 100 [.yl l, .ep [rowsV rows], .ep [.v (.int .i64 c)]] (f 0) (.tup []) (f k) := by
  refine FnOK.intro Tryz.f100 (by kernel_rfl) rfl rfl [] rfl n0 hlt (Nat.le_of_ble_eq_true rfl) ?_ hid fun E hN h0 => ?_
  · simp only [subL, subD, idP, hl, rowsV, if_true]
  have hnf : ∀ i, namesL (f (i + 1)) = namesL (f i) := fun i => (hnm (i + 1)).trans (hnm i).symm
  have hdone : ∀ (e : Exit) (σ : List (Nat × D)) (S : Store) (nx : Nat), (e = .normal ∨ e = .ret) → weakS S (f k) → n0 ≤ nx → Done E n0 [] (.tup []) (f k) e ⟨σ, S, nx, []⟩ := by
    intro e σ S nx he hS hnx
    refine Done.mk he (Into.weak (st' := ⟨[], f k, nx, []⟩) trivial hS (Nat.le_refl _) rfl) rfl (idm (f k)) n0 hren ?_ (by rw [hsub]; exact hw k) ?_
    · simp only [go_sem]
    · simp only [idm, List.all_map, List.all_eq_true, Function.comp]
      intro x hx
      obtain ⟨a, o⟩ := x
      exact look_some_of_mem hx
  refine W.boundE 1 0 (es := rows.map fun r => [rowV r]) (sz := 1) rfl rfl fun hb => W.code (N := 22) [] hN ?_
  simp only [List.length_map, maxLen] at hb
  repeat (first | refine st_end rfl ?_ | ((first | refine st1 fun K k => ?_ | refine st2 fun K k => ?_ | refine st3 rfl fun K k => ?_ | refine st4 fun K k => ?_); simp only [go_sem]; refine k _ _ _ _ _ _ ?_; clear k K))
  refine W.loopP (fun i : Nat => ⟨[(0, .yl l), (1, .ep [rowsV rows]), (2, .ep [.v (.int .i64 c)]), (6, rowsV rows), (7, .v (.int .i64 rows.length)), (8, .v (.int .i64 i))], f i, n0, []⟩)
    (fun i => i ≤ k ∧ (i = k → k = rows.length)) (fun i => k - i) 0 ?_ (Into.le ?_ ?_ (Nat.le_refl _) rfl) fun i hi => W.code (N := 22) [] hN ?_
  · refine ⟨Nat.zero_le _, fun h => ?_⟩
    omega
  · simp only [go_sem]
    exact LeD.refl _
  · exact leS_of_weak (hw 0)
  repeat (first | refine st_end rfl ?_ | ((first | refine st1 fun K k => ?_ | refine st2 fun K k => ?_ | refine st3 rfl fun K k => ?_ | refine st4 fun K k => ?_); simp only [go_sem]; refine k _ _ _ _ _ _ ?_; clear k K))
  refine st_cond fun A B a b => ?_; simp only [go_sem]; refine ⟨fun g => a ?_, fun g => b ?_⟩ <;> clear a b A B
  · have hik : i < k := by
      rcases Nat.lt_or_ge i k with h | h
      · exact h
      · exfalso; have := hi.2 (by omega); omega
    obtain ⟨r, hr⟩ := getS (l := rows) (i := i) (by omega)
    obtain ⟨v, hv⟩ := getS (l := r) (i := c) (hc r (List.mem_of_getElem? hr))
    have hrd := hround i r v hik hr hv
    have hput : weakS (putAll (delAll (f i) (namesL (f i))) (f (i + 1))) (f (i + 1)) := weakS_put _ _ (hw (i + 1))
    repeat (first | refine st_end rfl ?_ | ((first | refine st1 fun K k => ?_ | refine st2 fun K k => ?_ | refine st3 rfl fun K k => ?_ | refine st4 fun K k => ?_); simp only [go_sem, hr, hv, encV_len, encV_take, Nat.le_refl]; refine k _ _ _ _ _ _ ?_; clear k K))
    (first | refine st1 fun K k => ?_ | refine st3 rfl fun K k => ?_); simp only [go_sem]
    refine YieldRes.touch (f i) _ (f (i + 1)) n0 hrd ⟨fun x hx => weakS_mem (hw i) x hx, Nat.le_refl _, fun x hx hn => ?_⟩ ?_
    · exfalso
      have h1 : x.1 ∈ namesL (f (i + 1)) := List.mem_map.2 ⟨x, hx, rfl⟩
      rw [hnf i] at h1
      exact look_none.1 hn h1
    refine k _ _ _ _ _ _ ?_; clear k K
    cases hg : go i with
    | true =>
      have w5 : IntKind.wrap .i64 ((i : Int) + 1) = ((i + 1 : Nat) : Int) := wrapTo (by omega)
      repeat (first | refine st_end rfl ?_ | ((first | refine st1 fun K k => ?_ | refine st2 fun K k => ?_ | refine st3 rfl fun K k => ?_ | refine st4 fun K k => ?_); simp only [go_sem, w5]; refine k _ _ _ _ _ _ ?_; clear k K))
      refine ⟨i + 1, ⟨by omega, fun h => ?_⟩, by omega, Into.le ?_ (leS_of_weak hput) (Nat.le_refl _) rfl⟩
      · rcases hend with h2 | ⟨_, h2⟩
        · exact h2
        · rw [← h] at h2
          simp only [Nat.add_sub_cancel, hg] at h2
          cases h2
      · simp only [go_sem]
    | false =>
      have hlast : i + 1 = k := by
        rcases Nat.lt_or_ge (i + 1) k with h | h
        · rw [hgo i h] at hg; cases hg
        · omega
      repeat (first | refine st_end rfl ?_ | ((first | refine st1 fun K k => ?_ | refine st2 fun K k => ?_ | refine st3 rfl fun K k => ?_ | refine st4 fun K k => ?_); simp only [go_sem]; refine k _ _ _ _ _ _ ?_; clear k K))
      refine iq Into.refl (hdone _ _ _ _ (.inr rfl) ?_ (Nat.le_refl _))
      rw [← hlast]
      exact hput
  · refine iq Into.refl ?_
    have hik : i = k := by
      rcases hend with h | ⟨h, h2⟩
      · omega
      · omega
    subst hik
    repeat (first | refine st_end rfl ?_ | ((first | refine st1 fun K k => ?_ | refine st2 fun K k => ?_ | refine st3 rfl fun K k => ?_ | refine st4 fun K k => ?_); simp only [go_sem]; refine k _ _ _ _ _ _ ?_; clear k K))
    exact hdone _ _ _ _ (.inl rfl) (hw i) (Nat.le_refl _)
end Go.Proofs.YtjgooecohepkoaaGreatDoor
namespace Go.Proofs.YtjgooecohepkoaaGreatDoor
open Go Go.Abs
set_option linter.unusedSimpArgs false
set_option maxHeartbeats 2000000
/-! ### A range over a column -/
theorem newOf_idm {S : Store} {a : Nat} (h : a ∈ namesL S) : newOf (idm S) a = some a := by
  induction S with
  | nil => simp [namesL] at h
  | cons x r ih =>
    obtain ⟨l, o⟩ := x
    simp only [idm, List.map_cons, newOf]
    split
    · rename_i e; rw [e]
    · rename_i e
      refine ih ?_
      simp only [namesL, List.map_cons, List.mem_cons] at h
      rcases h with h | h
      · exact absurd h.symm e
      · exact h
theorem idP_of {S : Store} {a : Nat} (h : a ∈ namesL S) : idP S a = some a := by
  unfold idP
  rw [if_pos]
  obtain ⟨x, hx, rfl⟩ := List.mem_map.1 h
  exact look_some_of_mem (o := x.2) hx
theorem subS_idm {S : Store} {T : List (Nat × Nat)} : ∀ {R : Store}, (∀ x ∈ R, Abs.look S x.1 = some x.2) → mapS (subO (newOf T)) R = R → subS T S (idm R) = R
  | [], _, _ => rfl
  | (l, o) :: r, h, hm => by
    simp only [idm, List.map_cons, subS, h (l, o) (by simp)]
    simp only [mapS, List.map_cons, List.cons.injEq, Prod.mk.injEq, true_and] at hm
    rw [hm.1]
    congr 1
    exact subS_idm (fun x hx => h x (by simp [hx])) hm.2
theorem subL_enc (θ : Nat → Option Nat) (v : Val) : subL θ (encV v) = encV v := by
  obtain ⟨kd, s, dn, ds, num, cols, rows⟩ := v
  simp only [encV, subL, subD, strsD]
theorem renB_idm {n : Nat} {S T : Store} {nx : Nat} (hi : injB (idm T) = true) (hn : n ≤ nx) (hl : ∀ x ∈ T, (Abs.look S x.1).isSome = true ∧ x.1 < nx) : renB n S nx (idm T) = true := by
  simp only [renB, Bool.and_eq_true, List.all_eq_true, Bool.or_eq_true, Nat.ble_eq, Nat.blt_eq]
  refine ⟨⟨hi, hn⟩, ?_⟩
  intro x hx
  obtain ⟨y, hy, rfl⟩ := List.mem_map.1 hx
  exact ⟨⟨.inl (by simp), (hl y hy).1⟩, (hl y hy).2⟩
theorem all_idm {T : Store} : ((idm T).all fun x => (Abs.look T x.1).isSome) = true := by
  simp only [idm, List.all_map, List.all_eq_true, Function.comp]
  intro x hx
  exact look_some_of_mem (o := x.2) hx
theorem weakS_cons {S : Store} {l : Nat} {o : AO} (hl : l ∉ namesL S) : ∀ {T : Store}, weakS S T → (∀ x ∈ T, x.1 ≠ l) → weakS ((l, o) :: S) T
  | [], _, _ => trivial
  | (a, b) :: r, h, hn => ⟨by simp only [Abs.look]; rw [if_neg (fun e => hn (a, b) (by simp) e.symm)]; exact h.1, weakS_cons hl h.2 fun x hx => hn x (by simp [hx])⟩
/-- How a round of a range ends: by a jump, or not. -/
def RdEnd (E : Env sys) (l : Nat) (L : AO) (j : Option Code) (T : Store) (e : Exit) (st : St) : Prop :=
  jumpOf e = some j ∧ ∃ st', Into E st st' ∧ Abs.look st'.S l = some L ∧ weakS st'.S T
theorem W.column {E : Env sys} {st : St} {Q : Exit → St → Prop} {f : Operand} {ps : Array Tmp} {ac bd : Code} (rows : List (List Val)) (c : Nat) (hc : ∀ r ∈ rows, c < r.length) (hrd : E.rd = none)
    (hv : evD E.gl st.σ f = .fn (.func 100) [] [.ep [rowsV rows], .ep [.v (.int .i64 c)]]) (hp2 : ps.toList.length = 2) (hps : (ps.toList.all fun t => Nat.blt t E.N) = true)
    (S : Nat → Store) (hS0 : weakS st.S (S 0)) (hnm : ∀ i, namesL (S i) = namesL (S 0)) (hw : ∀ i, weakS (S i) (S i)) (hlt : ∀ a ∈ namesL (S 0), a < st.nx) (hinj : injB (idm (S 0)) = true)
    (hσ : ∀ θ : Nat → Option Nat, (∀ a ∈ namesL (S 0), θ a = some a) → mapT (subD θ) st.σ = st.σ) (hsS : ∀ i (θ : Nat → Option Nat), (∀ a ∈ namesL (S 0), θ a = some a) → mapS (subO θ) (S i) = S i)
    (k : Nat) (hk : k ≤ rows.length) (j : Option Code) (hj : (j = none ∧ k = rows.length) ∨ (j ≠ none ∧ 0 < k))
    (hround : ∀ i r v, i < k → rows[i]? = some r → r[c]? = some v → ∀ E' : Env sys, E'.N = E.N → E'.rd = some st.nx → (∀ l, E'.g0.φ l ≠ none → l < st.nx + 1) → ∀ L : AO,
      W E' ac ⟨zipT st.σ ps.toList [.v (.int .i64 i), .agg (encV v)], (st.nx, L) :: S i, st.nx + 1, []⟩ (thenQ (fun stA => ∃ st1, Into E' stA st1 ∧ Abs.look st1.S st.nx = some L ∧
        ∀ L', W E' bd ⟨st1.σ, putS st1.S st.nx L', st1.nx, []⟩ (RdEnd E' st.nx L' (if i + 1 = k then j else none) (S (i + 1)))) (fun _ _ => False)))
    (hK : match j with | none => Q .normal ⟨st.σ, S k, st.nx + 1, st.ds⟩ | some cc => W E cc ⟨st.σ, S k, st.nx + 1, st.ds⟩ Q) : W E (.rangeFunc f ps ac bd) st Q := by
  obtain ⟨F, hF⟩ : ∃ F : Nat → Store, ∀ i, F i = (st.nx, AO.lp (if i = k ∧ j ≠ none then .done else .ready) (if i = k then j else none) st.σ E.N ps.toList ac bd) :: S i := ⟨_, fun _ => rfl⟩
  have hnx : ∀ i, st.nx ∉ namesL (S i) := fun i h => by rw [hnm i] at h; exact Nat.lt_irrefl _ (hlt _ h)
  have hmemF : ∀ i a, a ∈ namesL (F i) ↔ a = st.nx ∨ a ∈ namesL (S 0) := by
    intro i a
    rw [hF, ← hnm i]
    simp [namesL]
  have hwF : ∀ i, weakS (F i) (F i) := by
    intro i
    rw [hF]
    refine ⟨by simp [Abs.look], weakS_cons (hnx i) (hw i) ?_⟩
    intro x hx e
    exact hnx i (e ▸ List.mem_map.2 ⟨x, hx, rfl⟩)
  have hnmF : ∀ i, namesL (F i) = namesL (F 0) := by
    intro i
    rw [hF, hF]
    simp only [namesL, List.map_cons]
    congr 1
    exact hnm i
  have hθF : ∀ i (θ : Nat → Option Nat), (∀ a ∈ namesL (F 0), θ a = some a) → mapS (subO θ) (F i) = F i := by
    intro i θ hθ
    have hθ' : ∀ a ∈ namesL (S 0), θ a = some a := fun a ha => hθ a ((hmemF 0 a).2 (.inr ha))
    rw [hF]
    have h1 := hsS i θ hθ'
    simp only [mapS, List.map_cons, subO, hσ θ hθ'] at h1 ⊢
    rw [h1]
  have hinjF : ∀ i, injB (idm (F i)) = true := by
    intro i
    have e : idm (S i) = idm (S 0) := by
      have h1 : ∀ T : Store, idm T = (namesL T).map fun a => (a, a) := fun T => by simp [idm, namesL]
      rw [h1, h1, hnm i]
    rw [hF]
    simp only [idm, List.map_cons, injB, Bool.and_eq_true, List.all_eq_true]
    refine ⟨?_, by have := hinj; rw [← e] at this; exact this⟩
    intro x hx
    obtain ⟨y, hy, rfl⟩ := List.mem_map.1 hx
    have hne : y.1 ≠ st.nx := fun e => hnx i (e ▸ List.mem_map.2 ⟨y, hy, rfl⟩)
    have hb : Nat.beq y.1 st.nx = false := by
      cases hq : Nat.beq y.1 st.nx with
      | false => rfl
      | true => exact absurd (Nat.eq_of_beq_eq_true hq) hne
    simp [hb]
  have hltF : ∀ i, ∀ x ∈ F i, x.1 < st.nx + 1 := by
    intro i x hx
    have := (hmemF i x.1).1 (List.mem_map.2 ⟨x, hx, rfl⟩)
    rcases this with h | h
    · omega
    · have := hlt _ h; omega
  have hltB : ∀ i, ((F i).all fun x => Nat.blt x.1 (st.nx + 1)) = true := by
    intro i
    rw [List.all_eq_true]
    intro x hx
    simpa using hltF i x hx
  have hround' : ∀ i r v, i < k → rows[i]? = some r → r[c]? = some v → RdOK sys st.nx [.v (.int .i64 i), .agg (encV v)] (F i) (.v (.bool (decide (¬ (i + 1 = k ∧ j ≠ none))))) (F (i + 1)) := by
    intro i r v hik hr hvv
    have hFi : F i = (st.nx, AO.lp .ready none st.σ E.N ps.toList ac bd) :: S i := by
      rw [hF, if_neg (by omega), if_neg (by omega)]
    refine RdOK.intro (show Abs.look (F i) st.nx = some (.lp .ready none st.σ E.N ps.toList ac bd) by rw [hFi]; simp [Abs.look]) (st.nx + 1) (hltB i) (by simp only [subL, subD, subL_enc]) (hθF i _ fun a ha => idP_of (by rw [hnmF i]; exact ha)) (by rw [hp2]; rfl) hps ?_
    intro E' hN' hrd' h0'
    rw [hFi]
    refine (hround i r v hik hr hvv E' hN' hrd' h0' _).mono ?_
    intro e stA q
    cases e <;> simp only [thenQ] at q ⊢
    obtain ⟨st1, hi1, hl1, hbd⟩ := q
    refine ⟨st1, hi1, none, st.σ, E.N, ps.toList, ac, bd, hl1, (hbd _).mono ?_⟩
    rintro e2 st2 ⟨hj2, st3, hi3, hl3, hw3⟩
    refine ⟨_, hj2, ?_, st3, hi3, _, _, _, _, _, _, _, hl3, idm (F (i + 1)), st3.nx + st.nx + 1, ?_, ?_, all_idm⟩
    · congr 2
      by_cases h1 : i + 1 = k
      · cases j <;> simp [h1]
      · simp [h1]
    · refine renB_idm (hinjF _) (by omega) ?_
      intro x hx
      rw [hF] at hx
      rcases List.mem_cons.1 hx with rfl | hx
      · exact ⟨by simp [look_putS], by simp only; omega⟩
      · have h1 := weakS_mem hw3 x hx
        have hne : st.nx ≠ x.1 := fun e => hnx (i + 1) (e ▸ List.mem_map.2 ⟨x, hx, rfl⟩)
        exact ⟨by simp [look_putS, hne, h1], by have := hltF (i + 1) x (by rw [hF]; simp [hx]); omega⟩
    · rw [subS_idm (T := idm (F (i + 1))) (R := F (i + 1)) ?_ (hθF _ _ fun a ha => newOf_idm (by rw [hnmF (i + 1)]; exact ha))]
      · exact hwF _
      · intro x hx
        rw [hF] at hx
        rcases List.mem_cons.1 hx with rfl | hx
        · simp only [look_putS, if_true]
          congr 2
          · by_cases h1 : i + 1 = k
            · cases j <;> simp [h1]
            · simp [h1]
        · have h1 := weakS_mem hw3 x hx
          have hne : st.nx ≠ x.1 := fun e => hnx (i + 1) (e ▸ List.mem_map.2 ⟨x, hx, rfl⟩)
          rw [look_putS, if_neg hne]; exact h1
  have h100 := f100_ok st.nx (st.nx + 1) rows c hc F (fun i => decide (¬ (i + 1 = k ∧ j ≠ none))) k hk (fun i h => by simp; omega) (by
      rcases hj with ⟨_, h⟩ | ⟨h1, h2⟩
      · exact .inl h
      · refine .inr ⟨h2, ?_⟩
        have : k - 1 + 1 = k := by omega
        simp [this, h1]) hnmF hwF (by rw [hF]; simp [Abs.look]) (hltB 0) (hθF 0 _ fun a ha => idP_of ha) (renB_idm (hinjF k) (Nat.le_refl _) fun x hx => ⟨by rw [weakS_mem (hwF k) x hx]; rfl, hltF k x hx⟩)
      (subS_idm (fun x hx => weakS_mem (hwF k) x hx) (hθF k _ fun a ha => newOf_idm (by rw [hnmF k]; exact ha))) hround'
  have hF0 : F 0 = (st.nx, AO.lp .ready none st.σ E.N ps.toList ac bd) :: S 0 := by
    rw [hF]
    by_cases h0 : 0 = k
    · have hjn : j = none := by
        rcases hj with ⟨h, _⟩ | ⟨_, h⟩
        · exact h
        · omega
      simp [h0, hjn]
    · simp [h0]
  refine W.iq ?_
  refine W.rangeFunc (k := 100) (args := [.yl st.nx, .ep [rowsV rows], .ep [.v (.int .i64 c)]]) (pre := F 0) (post := F k) (d := .tup []) (nx' := st.nx + 1) (by unfold inRd; rw [hrd]; trivial) (by rw [hv]; rfl) h100 ⟨?_, Nat.le_refl _, ?_⟩ ?_
  · intro x hx
    rw [hF0] at hx
    rcases List.mem_cons.1 hx with rfl | hx
    · simp [Abs.look]
    · have hne : st.nx ≠ x.1 := fun e => hnx 0 (e ▸ List.mem_map.2 ⟨x, hx, rfl⟩)
      simp only [Abs.look, if_neg hne]
      exact weakS_mem hS0 x hx
  · intro x hx hn
    exfalso
    have h1 : x.1 ∈ namesL (F k) := List.mem_map.2 ⟨x, hx, rfl⟩
    rw [hnmF k] at h1
    exact look_none.1 hn h1
  · have hlk : Abs.look (F k) st.nx = some (AO.lp (if j ≠ none then .done else .ready) j st.σ E.N ps.toList ac bd) := by
      rw [hF]; simp [Abs.look]
    refine ⟨(if j ≠ none then .done else .ready), j, st.σ, E.N, ps.toList, ac, bd, by rw [look_putAll, hlk]; rfl, by split <;> simp, ?_⟩
    have hS' : weakS (delS (putAll (delAll ((st.nx, AO.lp .ready none st.σ E.N ps.toList ac bd) :: st.S) (namesL (F 0))) (F k)) st.nx) (S k) := by
      have hlo : ∀ x ∈ S k, Abs.look (F k) x.1 = some x.2 := by
        intro x hx
        exact weakS_mem (hwF k) x (by rw [hF]; simp [hx])
      have : ∀ T : Store, (∀ x ∈ T, x.1 ≠ st.nx ∧ Abs.look (F k) x.1 = some x.2) → weakS (delS (putAll (delAll ((st.nx, AO.lp .ready none st.σ E.N ps.toList ac bd) :: st.S) (namesL (F 0))) (F k)) st.nx) T := by
        intro T
        induction T with
        | nil => intro _; trivial
        | cons x r ih =>
          intro h
          obtain ⟨a, o⟩ := x
          have h1 := h (a, o) (by simp)
          exact ⟨by rw [look_delS, if_neg (fun e => h1.1 e.symm), look_putAll, h1.2]; rfl, ih fun x hx => h x (by simp [hx])⟩
      exact this (S k) fun x hx => ⟨fun e => hnx k (e ▸ List.mem_map.2 ⟨x, hx, rfl⟩), hlo x hx⟩
    have hInto : Into E ⟨st.σ, delS (putAll (delAll ((st.nx, AO.lp .ready none st.σ E.N ps.toList ac bd) :: st.S) (namesL (F 0))) (F k)) st.nx, st.nx + 1, st.ds⟩ ⟨st.σ, S k, st.nx + 1, st.ds⟩ := fun a w g hs => ⟨g, hs.del (S k) fun l o h => weakS_look hS' h⟩
    cases j with
    | none => exact iq hInto hK
    | some cc => exact W.into hInto ((show W E cc ⟨st.σ, S k, st.nx + 1, st.ds⟩ Q from hK).mono fun e st' q => iq Into.refl q)
end Go.Proofs.YtjgooecohepkoaaGreatDoor
namespace Go.Proofs.YtjgooecohepkoaaGreatDoor
open Go Go.Abs
set_option linter.unusedSimpArgs false
set_option maxHeartbeats 2000000
/-! ### Right tables -/
def kindAt (c : Nat) (r : List Val) : Int := ((r[c]?).map Val.kind).getD 0
def kind1 (l : List Int) : Int := (l.find? (· != 0)).getD 0
def okCol (l : List Int) : Bool := l.all fun x => x == 0 || x == kind1 l
def rightT (name : List UInt8) (cols : List (List UInt8)) (rows : List (List Val)) : Bool :=
  nameR name && (!cols.isEmpty && rowsR cols rows) && (List.range cols.length).all fun c => okCol (rows.map (kindAt c))
theorem kind1_take {l : List Int} {i : Nat} (h : kind1 (l.take i) ≠ 0) : kind1 l = kind1 (l.take i) := by
  unfold kind1 at *
  rw [← List.take_append_drop i l, List.find?_append]
  simp only [List.take_append_drop]
  cases hf : (l.take i).find? (· != 0) with
  | some x => rfl
  | none => rw [hf] at h; exact absurd rfl h
theorem kind1_succ {l : List Int} {i : Nat} {x : Int} (h : l[i]? = some x) : kind1 (l.take (i + 1)) = if kind1 (l.take i) = 0 then x else kind1 (l.take i) := by
  have e5 : l.take (i + 1) = l.take i ++ [x] := by rw [List.take_add_one, h]; rfl
  unfold kind1 at *
  rw [e5, List.find?_append]
  cases hf : (l.take i).find? (· != 0) with
  | some y =>
    have hy : y ≠ 0 := by have := List.find?_some hf; simpa using this
    simp [hy]
  | none =>
    by_cases hx : x = 0
    · simp [hx]
    · simp [hx]
theorem okCol_iff (l : List Int) : okCol l = true ↔ ∀ i x, l[i]? = some x → kind1 (l.take i) = 0 ∨ x = 0 ∨ x = kind1 (l.take i) := by
  simp only [okCol, List.all_eq_true, Bool.or_eq_true, beq_iff_eq]
  constructor
  · intro h i x hx
    by_cases h0 : kind1 (l.take i) = 0
    · exact .inl h0
    · rw [← kind1_take h0]
      exact .inr (h x (List.mem_of_getElem? hx))
  · intro h x hx
    obtain ⟨i, hi⟩ := List.mem_iff_getElem?.1 hx
    by_cases hx0 : x = 0
    · exact .inl hx0
    · refine .inr ?_
      rcases h i x hi with h1 | h1 | h1
      · have h2 := kind1_succ hi
        rw [if_pos h1] at h2
        rw [kind1_take (i := i + 1) (by rw [h2]; exact hx0), h2]
      · exact absurd h1 hx0
      · rw [kind1_take (i := i) (by rw [← h1]; exact hx0)]; exact h1
/-- Rounds up to the first that fails. -/
theorem rounds (p : Nat → Bool) : ∀ n : Nat, (∀ i, i < n → p i = true) ∨ ∃ k, 0 < k ∧ k ≤ n ∧ (∀ i, i + 1 < k → p i = true) ∧ p (k - 1) = false
  | 0 => .inl (by omega)
  | n + 1 => by
    rcases rounds p n with h | ⟨k, h1, h2, h3, h4⟩
    · cases hp : p n with
      | true =>
        refine .inl fun i hi => ?_
        rcases Nat.lt_or_ge i n with h' | h'
        · exact h i h'
        · rw [show i = n by omega]; exact hp
      | false => exact .inr ⟨n + 1, by omega, by omega, fun i hi => h i (by omega), hp⟩
    · exact .inr ⟨k, h1, by omega, h3, h4⟩
theorem rounds' (p : Nat → Bool) (jc : Code) (n : Nat) : ∃ (k : Nat) (j : Option Code), k ≤ n ∧ ((j = none ∧ k = n) ∨ (j = some jc ∧ 0 < k)) ∧
    (∀ a, a < k → (p a = true ∧ (if a + 1 = k then j else none) = none) ∨ (p a = false ∧ (if a + 1 = k then j else none) = some jc ∧ a + 1 = k)) ∧ (j = none → ∀ a, a < n → p a = true) ∧ (j = some jc → p (k - 1) = false) := by
  rcases rounds p n with h | ⟨k, h1, h2, h3, h4⟩
  · exact ⟨n, none, Nat.le_refl _, .inl ⟨rfl, rfl⟩, fun a ha => .inl ⟨h a ha, by simp⟩, fun _ => h, fun e => by cases e⟩
  · refine ⟨k, some jc, h2, .inr ⟨rfl, h1⟩, fun a ha => ?_, (fun e => by cases e), fun _ => h4⟩
    by_cases e : a + 1 = k
    · refine .inr ⟨?_, by simp [e], e⟩
      rw [← e] at h4
      simpa using h4
    · exact .inl ⟨h3 a (by omega), by simp [e]⟩
theorem kind1_nil : kind1 [] = 0 := rfl
theorem oneName (s : List UInt8) : rowsR [s] [] = nameR s := by
  simp [rowsR]
theorem f59_ok (s : List UInt8) (hs : s.length ≤ 1000000) : FnOK sys 59 [.s s] [] (.v (.bool (nameR s))) [] := by
  refine FnOK.intro Tryz.f59 (by kernel_rfl) rfl rfl [.tmp 2] rfl 0 rfl (Nat.le_of_ble_eq_true rfl) rfl rfl fun E hN h0 => W.code (N := 7) [4] hN ?_
  have h := (f60_ok (.mk 5 [] 0 0 0 [s] []) (by intro c hc; simp [Val.cols] at hc; subst hc; exact hs)).leArgs (args := [.agg [.v (.int .i64 5), .s [], .v (.int .i64 0), .v (.int .i64 0), .v (.int .i64 0), strsD [s], .v (.slice none 0 0)]])
    (LeL.cons (LeD.agg (LeL.cons (LeD.refl _) (LeL.cons (LeD.refl _) (LeL.cons (LeD.refl _) (LeL.cons (LeD.refl _) (LeL.cons (LeD.refl _) (LeL.cons (LeD.refl _) (LeL.cons (LeD.nil 1) LeL.nil)))))))) LeL.nil)
  have e : rightV (.mk 5 [] 0 0 0 [s] []) = nameR s := by
    simp only [rightV, if_true, oneName]; simp
  rw [e] at h
  repeat (first | refine st_end rfl ?_ | ((first | refine st1 fun K k => ?_ | refine st2 fun K k => ?_ | refine st3 rfl fun K k => ?_ | refine st4 fun K k => ?_); simp only [go_sem]; refine k _ _ _ _ _ _ ?_; clear k K))
  (first | refine st1 fun K k => ?_ | refine st3 rfl fun K k => ?_); simp only [go_sem]; refine callP (h) ?_; refine k _ _ _ _ _ _ ?_; clear k K
  repeat (first | refine st_end rfl ?_ | ((first | refine st1 fun K k => ?_ | refine st2 fun K k => ?_ | refine st3 rfl fun K k => ?_ | refine st4 fun K k => ?_); simp only [go_sem]; refine k _ _ _ _ _ _ ?_; clear k K))
  refine Done.t1 ?_
  simp only [go_sem]
theorem f61_ok (name : List UInt8) (cols : List (List UInt8)) (rows : List (List Val)) : FnOK sys 61 [.agg [.s name, strsD cols, rowsV rows]] [] (.agg (encV (.mk 5 [] 0 0 0 cols rows))) [] := by
  refine FnOK.intro Tryz.f61 (by kernel_rfl) rfl rfl [.cell 2 33] rfl 0 rfl (Nat.le_of_ble_eq_true rfl) rfl rfl fun E hN h0 => W.code (N := 8) [1] hN ?_
  have hrl : encRs rows = rows.map fun r => [rowV r] := by rw [encRs_map, List.map_map]; rfl
  repeat (first | refine st_end rfl ?_ | ((first | refine st1 fun K k => ?_ | refine st2 fun K k => ?_ | refine st3 rfl fun K k => ?_ | refine st4 fun K k => ?_); simp only [go_sem]; refine k _ _ _ _ _ _ ?_; clear k K))
  refine Done.mk (.inr rfl) Into.refl rfl [] 0 rfl ?_ trivial rfl
  simp only [go_sem, encV, hrl]
theorem f21_ok (name : List UInt8) (cols : List (List UInt8)) (rows : List (List Val)) : FnOK sys 21 [.agg [.s name, strsD cols, rowsV rows]] [] (.agg (encV (.mk 5 [] 0 0 0 cols rows))) [] := by
  refine FnOK.intro Tryz.f21 (by kernel_rfl) rfl rfl [.cell 2 33] rfl 0 rfl (Nat.le_of_ble_eq_true rfl) rfl rfl fun E hN h0 => W.code (N := 8) [1] hN ?_
  have hrl : encRs rows = rows.map fun r => [rowV r] := by rw [encRs_map, List.map_map]; rfl
  repeat (first | refine st_end rfl ?_ | ((first | refine st1 fun K k => ?_ | refine st2 fun K k => ?_ | refine st3 rfl fun K k => ?_ | refine st4 fun K k => ?_); simp only [go_sem]; refine k _ _ _ _ _ _ ?_; clear k K))
  refine Done.mk (.inr rfl) Into.refl rfl [] 0 rfl ?_ trivial rfl
  simp only [go_sem, encV, hrl]
end Go.Proofs.YtjgooecohepkoaaGreatDoor
