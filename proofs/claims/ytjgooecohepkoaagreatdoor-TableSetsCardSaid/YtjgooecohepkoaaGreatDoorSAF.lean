/- Contracts of the functions that the statement reaches. -/
import Derived.Test.YtjgooecohepkoaaGreatDoorSAE
import Derived.Test.YtjgooecohepkoaaGreatDoorSAD
set_option linter.unusedVariables false
set_option linter.unusedSimpArgs false
namespace Go.Proofs.YtjgooecohepkoaaGreatDoor
open Go Go.Abs
set_option linter.unusedSimpArgs false
set_option maxHeartbeats 2000000
theorem classM_kind : ∀ e ∈ classM, (match TK.int .i64, e.1 with | .str, .string _ => true | .int k, .int k' _ => k == k' | _, _ => false) = true := by
  simp only [classM, List.forall_mem_cons, beq_self_eq_true, List.not_mem_nil, false_imp_iff, implies_true, and_self]
theorem f60_cls (kd : Int) (s : List UInt8) (dn ds num : Int) (cols : List (List UInt8)) (rows : List (List Val)) (kf kg : Nat) (q : Bool) (hk : findM classM (.int .i64 kd) = some (.agg [.v (.func (.func kf) #[] #[]), .v (.func (.func kg) #[] #[])]))
    (h : FnOK sys kf [.agg (encV (.mk kd s dn ds num cols rows))] [] (.v (.bool q)) []) : FnOK sys 60 [.agg (encV (.mk kd s dn ds num cols rows))] [] (.v (.bool q)) [] := by
  refine FnOK.intro Tryz.f60 (by kernel_rfl) rfl rfl [.tmp 2] rfl 0 rfl (Nat.le_of_ble_eq_true rfl) rfl rfl fun E hN h0 => W.code (N := 19) [1] hN ?_
  simp only [encV] at h ⊢
  repeat (first | refine st_end rfl ?_ | ((first | refine st1 fun K k => ?_ | refine st2 fun K k => ?_ | refine st3 rfl fun K k => ?_ | refine st4 fun K k => ?_); simp only [go_sem]; refine k _ _ _ _ _ _ ?_; clear k K))
  (first | refine st1 fun K k => ?_ | refine st3 rfl fun K k => ?_); simp only [go_sem]
  refine callT f102_ok 1 (by simp only [go_sem]) (by omega) (by simp only [go_sem]) ?_
  refine k _ _ _ _ _ _ ?_; clear k K
  repeat (first | refine st_end rfl ?_ | ((first | refine st1 fun K k => ?_ | refine st2 fun K k => ?_ | refine st3 rfl fun K k => ?_ | refine st4 fun K k => ?_); simp only [go_sem]; refine k _ _ _ _ _ _ ?_; clear k K))
  (first | refine st1 fun K k => ?_ | refine st3 rfl fun K k => ?_); simp only [go_sem, hk]
  refine ⟨rfl, classM_kind, ?_⟩
  refine k _ _ _ _ _ _ ?_; clear k K
  repeat (first | refine st_end rfl ?_ | ((first | refine st1 fun K k => ?_ | refine st2 fun K k => ?_ | refine st3 rfl fun K k => ?_ | refine st4 fun K k => ?_); simp only [go_sem]; refine k _ _ _ _ _ _ ?_; clear k K))
  (first | refine st1 fun K k => ?_ | refine st3 rfl fun K k => ?_); simp only [go_sem]; refine callP (h) ?_; refine k _ _ _ _ _ _ ?_; clear k K
  repeat (first | refine st_end rfl ?_ | ((first | refine st1 fun K k => ?_ | refine st2 fun K k => ?_ | refine st3 rfl fun K k => ?_ | refine st4 fun K k => ?_); simp only [go_sem]; refine k _ _ _ _ _ _ ?_; clear k K))
  refine Done.t1 ?_
  simp only [go_sem]
theorem f60_none (kd : Int) (s : List UInt8) (dn ds num : Int) (cols : List (List UInt8)) (rows : List (List Val)) (hk : findM classM (.int .i64 kd) = none) :
    FnOK sys 60 [.agg (encV (.mk kd s dn ds num cols rows))] [] (.v (.bool false)) [] := by
  refine FnOK.intro Tryz.f60 (by kernel_rfl) rfl rfl [.tmp 2] rfl 0 rfl (Nat.le_of_ble_eq_true rfl) rfl rfl fun E hN h0 => W.code (N := 19) [1] hN ?_
  simp only [encV]
  repeat (first | refine st_end rfl ?_ | ((first | refine st1 fun K k => ?_ | refine st2 fun K k => ?_ | refine st3 rfl fun K k => ?_ | refine st4 fun K k => ?_); simp only [go_sem]; refine k _ _ _ _ _ _ ?_; clear k K))
  (first | refine st1 fun K k => ?_ | refine st3 rfl fun K k => ?_); simp only [go_sem]
  refine callT f102_ok 1 (by simp only [go_sem]) (by omega) (by simp only [go_sem]) ?_
  refine k _ _ _ _ _ _ ?_; clear k K
  repeat (first | refine st_end rfl ?_ | ((first | refine st1 fun K k => ?_ | refine st2 fun K k => ?_ | refine st3 rfl fun K k => ?_ | refine st4 fun K k => ?_); simp only [go_sem]; refine k _ _ _ _ _ _ ?_; clear k K))
  (first | refine st1 fun K k => ?_ | refine st3 rfl fun K k => ?_); simp only [go_sem, hk]
  refine ⟨rfl, classM_kind, ?_⟩
  refine k _ _ _ _ _ _ ?_; clear k K
  repeat (first | refine st_end rfl ?_ | ((first | refine st1 fun K k => ?_ | refine st2 fun K k => ?_ | refine st3 rfl fun K k => ?_ | refine st4 fun K k => ?_); simp only [go_sem]; refine k _ _ _ _ _ _ ?_; clear k K))
  refine Done.t1 ?_
  simp only [go_sem]
theorem classM_find (n : Int) : findM classM (.int .i64 n) = if n = 0 then some (.agg [.v (.func (.func 146) #[] #[]), .v (.func (.func 148) #[] #[])]) else if n = 1 then some (.agg [.v (.func (.func 149) #[] #[]), .v (.func (.func 151) #[] #[])])
    else if n = 2 then some (.agg [.v (.func (.func 152) #[] #[]), .v (.func (.func 154) #[] #[])]) else if n = 3 then some (.agg [.v (.func (.func 155) #[] #[]), .v (.func (.func 148) #[] #[])])
    else if n = 4 then some (.agg [.v (.func (.func 156) #[] #[]), .v (.func (.func 148) #[] #[])]) else if n = 5 then some (.agg [.v (.func (.func 157) #[] #[]), .v (.func (.func 159) #[] #[])]) else none := by
  have hkey : ∀ m : Int, keyEq (.int .i64 n) (.int .i64 m) = decide (n = m) := by
    intro m
    rw [Bool.eq_iff_iff]; simp [keyEq]
  simp only [findM, classM, List.find?_cons, hkey, List.find?_nil]
  by_cases h0 : n = 0
  · simp [h0]
  by_cases h1 : n = 1
  · simp [h1]
  by_cases h2 : n = 2
  · simp [h2]
  by_cases h3 : n = 3
  · simp [h3]
  by_cases h4 : n = 4
  · simp [h4]
  by_cases h5 : n = 5
  · simp [h5]
  simp [h0, h1, h2, h3, h4, h5]
/-- value.Right of a value that is no table. -/
theorem f60_flat (v : Val) (h : v.kind ≠ 5) : FnOK sys 60 [.agg (encV v)] [] (.v (.bool (rightF v))) [] := by
  obtain ⟨kd, s, dn, ds, num, cols, rows⟩ := v
  have h5 : ¬ kd = 5 := h
  have hf := classM_find kd
  by_cases h0 : kd = 0
  · rw [if_pos h0] at hf
    have := f60_cls kd s dn ds num cols rows 146 _ _ hf (f146_ok kd s dn ds num cols rows)
    simpa only [rightF, if_pos h0] using this
  by_cases h1 : kd = 1
  · rw [if_neg h0, if_pos h1] at hf
    have := f60_cls kd s dn ds num cols rows 149 _ _ hf (f149_ok kd s dn ds num cols rows)
    simpa only [rightF, if_neg h0, if_pos h1] using this
  by_cases h2 : kd = 2
  · rw [if_neg h0, if_neg h1, if_pos h2] at hf
    have := f60_cls kd s dn ds num cols rows 152 _ _ hf (f152_ok kd s dn ds num cols rows)
    simpa only [rightF, if_neg h0, if_neg h1, if_pos h2] using this
  by_cases h3 : kd = 3
  · rw [if_neg h0, if_neg h1, if_neg h2, if_pos h3] at hf
    have := f60_cls kd s dn ds num cols rows 155 _ _ hf (f155_ok kd s dn ds num cols rows)
    simpa only [rightF, if_neg h0, if_neg h1, if_neg h2, if_pos h3] using this
  by_cases h4 : kd = 4
  · rw [if_neg h0, if_neg h1, if_neg h2, if_neg h3, if_pos h4] at hf
    have := f60_cls kd s dn ds num cols rows 156 _ _ hf (f156_ok kd s dn ds num cols rows)
    simpa only [rightF, if_neg h0, if_neg h1, if_neg h2, if_neg h3, if_pos h4] using this
  · rw [if_neg h0, if_neg h1, if_neg h2, if_neg h3, if_neg h4, if_neg h5] at hf
    have := f60_none kd s dn ds num cols rows hf
    simpa only [rightF, if_neg h0, if_neg h1, if_neg h2, if_neg h3, if_neg h4] using this
theorem f197_ok (v : Val) : FnOK sys 197 [.agg (encV v)] [] (.v (.bool (v.kind == 5 || !rightF v))) [] := by
  obtain ⟨kd, s, dn, ds, num, cols, rows⟩ := v
  refine FnOK.intro Tryz.f197 (by kernel_rfl) rfl rfl [.tmp 2] rfl 0 rfl (Nat.le_of_ble_eq_true rfl) rfl rfl fun E hN h0 => W.code (N := 11) [1] hN ?_
  by_cases h5 : kd = 5
  · simp only [encV]
    repeat (first | refine st_end rfl ?_ | ((first | refine st1 fun K k => ?_ | refine st2 fun K k => ?_ | refine st3 rfl fun K k => ?_ | refine st4 fun K k => ?_); simp only [go_sem, h5, beq_self_eq_true]; refine k _ _ _ _ _ _ ?_; clear k K))
    refine Done.t1 ?_
    simp only [go_sem, Val.kind, h5, beq_self_eq_true, Bool.true_or]
  · have h := f60_flat (.mk kd s dn ds num cols rows) h5
    have e : (kd == 5) = false := by simpa using h5
    simp only [encV] at h ⊢
    repeat (first | refine st_end rfl ?_ | ((first | refine st1 fun K k => ?_ | refine st2 fun K k => ?_ | refine st3 rfl fun K k => ?_ | refine st4 fun K k => ?_); simp only [go_sem, e]; refine k _ _ _ _ _ _ ?_; clear k K))
    (first | refine st1 fun K k => ?_ | refine st3 rfl fun K k => ?_); simp only [go_sem]; refine callP (h) ?_; refine k _ _ _ _ _ _ ?_; clear k K
    repeat (first | refine st_end rfl ?_ | ((first | refine st1 fun K k => ?_ | refine st2 fun K k => ?_ | refine st3 rfl fun K k => ?_ | refine st4 fun K k => ?_); simp only [go_sem]; refine k _ _ _ _ _ _ ?_; clear k K))
    refine Done.t1 ?_
    simp only [go_sem, Val.kind, e, Bool.false_or]
theorem f243_ok (xs : List Val) : FnOK sys 243 [rowV xs, .v (.func (.func 197) #[] #[])] [] (.v (.int .i64 (idxP (fun v => v.kind == 5 || !rightF v) xs 0))) [] := by
  refine FnOK.intro Tryz.f243 (by kernel_rfl) rfl rfl [.tmp 4] rfl 0 rfl (Nat.le_of_ble_eq_true rfl) rfl rfl fun E hN h0 => W.bound 0 rfl fun hb => W.code (N := 19) [] hN ?_
  simp only [List.length_map, maxLen] at hb
  repeat (first | refine st_end rfl ?_ | ((first | refine st1 fun K k => ?_ | refine st2 fun K k => ?_ | refine st3 rfl fun K k => ?_ | refine st4 fun K k => ?_); simp only [go_sem]; refine k _ _ _ _ _ _ ?_; clear k K))
  refine W.loopP (fun i : Nat => ⟨[(0, rowV xs), (1, .v (.func (.func 197) #[] #[])), (7, .v (.int .i64 xs.length)), (8, .v (.int .i64 i))], [], 0, []⟩)
    (fun i => i ≤ xs.length ∧ idxP (fun v => v.kind == 5 || !rightF v) (xs.drop i) i = idxP (fun v => v.kind == 5 || !rightF v) xs 0) (fun i => xs.length - i) 0 ⟨by omega, rfl⟩ (Into.le ?_ trivial (Nat.le_refl _) rfl) fun i hi => W.code (N := 19) [] hN ?_
  · simp only [go_sem]
    exact LeD.refl _
  repeat (first | refine st_end rfl ?_ | ((first | refine st1 fun K k => ?_ | refine st2 fun K k => ?_ | refine st3 rfl fun K k => ?_ | refine st4 fun K k => ?_); simp only [go_sem]; refine k _ _ _ _ _ _ ?_; clear k K))
  refine st_cond fun A B a b => ?_; simp only [go_sem]; refine ⟨fun g => a ?_, fun g => b ?_⟩ <;> clear a b A B
  · obtain ⟨y, hy⟩ := getS (l := xs) (i := i) (by omega)
    have hd := hi.2
    rw [drop_at hy, idxP] at hd
    repeat (first | refine st_end rfl ?_ | ((first | refine st1 fun K k => ?_ | refine st2 fun K k => ?_ | refine st3 rfl fun K k => ?_ | refine st4 fun K k => ?_); simp only [go_sem, hy, encV_len, encV_take, Nat.le_refl]; refine k _ _ _ _ _ _ ?_; clear k K))
    (first | refine st1 fun K k => ?_ | refine st3 rfl fun K k => ?_); simp only [go_sem]; refine callP (f197_ok y) ?_; refine k _ _ _ _ _ _ ?_; clear k K
    cases hq : (y.kind == 5 || !rightF y) with
    | true =>
      repeat (first | refine st_end rfl ?_ | ((first | refine st1 fun K k => ?_ | refine st2 fun K k => ?_ | refine st3 rfl fun K k => ?_ | refine st4 fun K k => ?_); simp only [go_sem]; refine k _ _ _ _ _ _ ?_; clear k K))
      refine iq Into.refl (Done.t1 ?_)
      rw [if_pos hq] at hd
      simp only [go_sem, hd]
    | false =>
      have w5 : IntKind.wrap .i64 ((i : Int) + 1) = ((i + 1 : Nat) : Int) := wrapTo (by omega)
      repeat (first | refine st_end rfl ?_ | ((first | refine st1 fun K k => ?_ | refine st2 fun K k => ?_ | refine st3 rfl fun K k => ?_ | refine st4 fun K k => ?_); simp only [go_sem, w5]; refine k _ _ _ _ _ _ ?_; clear k K))
      rw [if_neg (by rw [hq]; simp)] at hd
      refine ⟨i + 1, ⟨by omega, hd⟩, by omega, Into.le ?_ trivial (Nat.le_refl _) rfl⟩
      simp only [go_sem]
  · refine iq Into.refl ?_
    repeat (first | refine st_end rfl ?_ | ((first | refine st1 fun K k => ?_ | refine st2 fun K k => ?_ | refine st3 rfl fun K k => ?_ | refine st4 fun K k => ?_); simp only [go_sem]; refine k _ _ _ _ _ _ ?_; clear k K))
    refine Done.t1 ?_
    have := hi.2
    rw [List.drop_of_length_le (by omega)] at this
    simp only [go_sem, ← this, idxP]
theorem f196_ok (xs : List Val) : FnOK sys 196 [rowV xs, .v (.func (.func 197) #[] #[])] [] (.v (.bool (xs.any fun v => v.kind == 5 || !rightF v))) [] := by
  refine FnOK.intro Tryz.f196 (by kernel_rfl) rfl rfl [.tmp 4] rfl 0 rfl (Nat.le_of_ble_eq_true rfl) rfl rfl fun E hN h0 => W.code (N := 9) [] hN ?_
  repeat (first | refine st_end rfl ?_ | ((first | refine st1 fun K k => ?_ | refine st2 fun K k => ?_ | refine st3 rfl fun K k => ?_ | refine st4 fun K k => ?_); simp only [go_sem]; refine k _ _ _ _ _ _ ?_; clear k K))
  (first | refine st1 fun K k => ?_ | refine st3 rfl fun K k => ?_); simp only [go_sem]; refine callP (f243_ok xs) ?_; refine k _ _ _ _ _ _ ?_; clear k K
  repeat (first | refine st_end rfl ?_ | ((first | refine st1 fun K k => ?_ | refine st2 fun K k => ?_ | refine st3 rfl fun K k => ?_ | refine st4 fun K k => ?_); simp only [go_sem]; refine k _ _ _ _ _ _ ?_; clear k K))
  refine Done.t1 ?_
  simp only [go_sem, ge_iff_le, idxP_any]
end Go.Proofs.YtjgooecohepkoaaGreatDoor
namespace Go.Proofs.YtjgooecohepkoaaGreatDoor
open Go Go.Abs
set_option linter.unusedSimpArgs false
set_option maxHeartbeats 2000000
/-! ### Sets of texts -/
/-- A set of strings, as a map's entries. -/
def setM (es : List (List UInt8)) : List (Value × D) := es.map fun s => (.string ⟨⟨s⟩⟩, .v (.bool true))
theorem setM_zip (es : List (List UInt8)) : (es.map fun s => Value.string ⟨⟨s⟩⟩).zip (es.map fun _ => D.v (.bool true)) = setM es := by
  induction es with
  | nil => rfl
  | cons x r ih => simp only [List.map_cons, List.zip_cons_cons, ih, setM]
theorem setM_kind (es : List (List UInt8)) : ∀ e ∈ setM es, keyKind .str e.1 = true := by
  intro e he
  obtain ⟨s, _, rfl⟩ := List.mem_map.1 he
  rfl
theorem setM_find (es : List (List UInt8)) (x : List UInt8) (i : Decidable (x ∈ es)) : findM (setM es) (.string ⟨⟨x⟩⟩) = if x ∈ es then some (.v (.bool true)) else none := by
  induction es with
  | nil => simp [setM, findM]
  | cons y r ih =>
    by_cases h : x = y
    · subst h
      simp [setM, findM, keyEq]
    · have ih' := ih (Classical.propDecidable _)
      simp only [setM, findM, List.map_cons] at ih' ⊢
      have hk : keyEq (.string ⟨⟨x⟩⟩) (.string ⟨⟨y⟩⟩) = false := by simp [keyEq, h]
      rw [List.find?_cons, hk]
      simp only
      rw [ih']
      by_cases hm : x ∈ r <;> simp [hm, h]
/-- Into a set, behind what is there. -/
def ins (k : List (List UInt8)) (x : List UInt8) : List (List UInt8) := if x ∈ k then k else k ++ [x]
theorem putM_set (x : List UInt8) : ∀ (k : List (List UInt8)), putM (setM k) (.string ⟨⟨x⟩⟩) (.v (.bool true)) = setM (ins k x)
  | [] => rfl
  | y :: r => by
    have ih := putM_set x r
    by_cases h : x = y
    · subst h
      simp [setM, putM, keyEq, ins]
    · have hk : keyEq (.string ⟨⟨x⟩⟩) (.string ⟨⟨y⟩⟩) = false := by simp [keyEq, h]
      simp only [setM, List.map_cons, putM, hk, Bool.false_eq_true, if_false] at ih ⊢
      rw [ih]
      by_cases hm : x ∈ r
      · simp [ins, hm]
      · simp [ins, hm, h]
theorem setM_kindP (k : List (List UInt8)) : ∀ e ∈ setM k, (match TK.str, e.1 with | .str, .string _ => true | .int k, .int k' _ => k == k' | _, _ => false) = true := setM_kind k
theorem setM_sub (k : List (List UInt8)) (θ : Nat → Option Nat) : (setM k).map (fun x => (x.1, subD θ x.2)) = setM k := by
  simp [setM, subD]
end Go.Proofs.YtjgooecohepkoaaGreatDoor
namespace Go.Proofs.YtjgooecohepkoaaGreatDoor
open Go Go.Abs
set_option linter.unusedSimpArgs false
set_option maxHeartbeats 2000000
/-! ### Right values -/
def rowR (cols : List (List UInt8)) (row : List Val) : Bool := decide (row.length = cols.length) && !row.any fun v => v.kind == 5 || !rightF v
def rowsR (cols : List (List UInt8)) (rows : List (List Val)) : Bool := decide (cols.length ≤ 8) && decide (rows.length ≤ 100) && (cols.all nameR && decide cols.Nodup) && rows.all (rowR cols)
def rightV : Val → Bool
  | .mk k s dn ds n c r => if k = 5 then decide (n = 0 ∧ s = [] ∧ dn = 0 ∧ ds = 0) && rowsR c r else rightF (.mk k s dn ds n c r)
theorem f158_ok (kd : Int) (s : List UInt8) (dn ds num : Int) (cols : List (List UInt8)) (rows : List (List Val)) (hs : ∀ c ∈ cols, c.length ≤ 1000000) :
    FnOK sys 158 [.agg (encV (.mk kd s dn ds num cols rows))] [] (.v (.bool (rowsR cols rows))) [] := by
  refine FnOK.intro Tryz.f158 (by kernel_rfl) rfl rfl [.tmp 2] rfl 0 rfl (Nat.le_of_ble_eq_true rfl) rfl rfl fun E hN h0 => W.boundA 0 5 (es := cols.map fun s => [D.s s]) (sz := 1) rfl (by simp [encV, strsD]) fun hb => W.boundA 0 6 (es := encRs rows) (sz := 1) rfl (by simp [encV]) fun hb2 => W.code (N := 55) [1] hN ?_
  have hrl : encRs rows = rows.map fun r => [rowV r] := by rw [encRs_map, List.map_map]; rfl
  simp only [encV, hrl] at hb2 ⊢
  simp only [List.length_map, maxLen] at hb hb2
  by_cases h1 : (8 : Int) < cols.length
  · repeat (first | refine st_end rfl ?_ | ((first | refine st1 fun K k => ?_ | refine st2 fun K k => ?_ | refine st3 rfl fun K k => ?_ | refine st4 fun K k => ?_); simp only [go_sem, h1, decide_true]; refine k _ _ _ _ _ _ ?_; clear k K))
    refine Done.t1 ?_
    simp only [go_sem, rowsR, show ¬ cols.length ≤ 8 by omega, decide_false, Bool.false_and]
  by_cases h2 : (100 : Int) < rows.length
  · repeat (first | refine st_end rfl ?_ | ((first | refine st1 fun K k => ?_ | refine st2 fun K k => ?_ | refine st3 rfl fun K k => ?_ | refine st4 fun K k => ?_); simp only [go_sem, h1, h2, decide_true, decide_false]; refine k _ _ _ _ _ _ ?_; clear k K))
    refine Done.t1 ?_
    simp only [go_sem, rowsR, show ¬ rows.length ≤ 100 by omega, decide_false, Bool.false_and, Bool.and_false]
  repeat (first | refine st_end rfl ?_ | ((first | refine st1 fun K k => ?_ | refine st2 fun K k => ?_ | refine st3 rfl fun K k => ?_ | refine st4 fun K k => ?_); simp only [go_sem, h1, h2, decide_false]; refine k _ _ _ _ _ _ ?_; clear k K))
  refine W.loopP (fun i : Nat => ⟨[(1, .ep [.v (.int .i64 kd), .s s, .v (.int .i64 dn), .v (.int .i64 ds), .v (.int .i64 num), strsD cols, rowsV rows]), (3, .mp 0), (20, strsD cols), (21, .v (.int .i64 cols.length)), (22, .v (.int .i64 i))], [(0, .mp (setM (cols.take i)))], 1, []⟩)
    (fun i => i ≤ cols.length ∧ (cols.take i).all nameR = true ∧ (cols.take i).Nodup) (fun i => cols.length - i) 0 ⟨by omega, rfl, List.nodup_nil⟩ (Into.le ?_ ?_ (Nat.le_refl _) rfl) fun i hi => W.code (N := 55) [1] hN ?_
  · simp only [go_sem]
    exact LeD.refl _
  · simp only [go_sem]
    exact LeO.refl _
  repeat (first | refine st_end rfl ?_ | ((first | refine st1 fun K k => ?_ | refine st2 fun K k => ?_ | refine st3 rfl fun K k => ?_ | refine st4 fun K k => ?_); simp only [go_sem]; refine k _ _ _ _ _ _ ?_; clear k K))
  refine st_cond fun A B a b => ?_; simp only [go_sem]; refine ⟨fun g => a ?_, fun g => b ?_⟩ <;> clear a b A B
  · obtain ⟨x, hx⟩ := getS (l := cols) (i := i) (by omega)
    have e5 : cols.take (i + 1) = cols.take i ++ [x] := by rw [List.take_add_one, hx]; rfl
    repeat (first | refine st_end rfl ?_ | ((first | refine st1 fun K k => ?_ | refine st2 fun K k => ?_ | refine st3 rfl fun K k => ?_ | refine st4 fun K k => ?_); simp only [go_sem, hx]; refine k _ _ _ _ _ _ ?_; clear k K))
    (first | refine st1 fun K k => ?_ | refine st3 rfl fun K k => ?_); simp only [go_sem]; refine callP (f195_ok x (hs x (List.mem_of_getElem? hx))) ?_; refine k _ _ _ _ _ _ ?_; clear k K
    cases hn : nameR x with
    | false =>
      repeat (first | refine st_end rfl ?_ | ((first | refine st1 fun K k => ?_ | refine st2 fun K k => ?_ | refine st3 rfl fun K k => ?_ | refine st4 fun K k => ?_); simp only [go_sem]; refine k _ _ _ _ _ _ ?_; clear k K))
      refine iq Into.refl (Done.t1 ?_)
      have : cols.all nameR = false := by
        rw [← Bool.not_eq_true, List.all_eq_true]
        intro h
        rw [h x (List.mem_of_getElem? hx)] at hn; cases hn
      simp only [go_sem, rowsR, this, Bool.false_and, Bool.and_false]
    | true =>
      by_cases hm : x ∈ cols.take i
      · repeat (first | refine st_end rfl ?_ | ((first | refine st1 fun K k => ?_ | refine st2 fun K k => ?_ | refine st3 rfl fun K k => ?_ | refine st4 fun K k => ?_); simp only [go_sem]; refine k _ _ _ _ _ _ ?_; clear k K))
        (first | refine st1 fun K k => ?_ | refine st3 rfl fun K k => ?_); simp only [go_sem, setM_find, hm]
        refine ⟨setM_kindP _, ?_⟩
        refine k _ _ _ _ _ _ ?_; clear k K
        repeat (first | refine st_end rfl ?_ | ((first | refine st1 fun K k => ?_ | refine st2 fun K k => ?_ | refine st3 rfl fun K k => ?_ | refine st4 fun K k => ?_); simp only [go_sem]; refine k _ _ _ _ _ _ ?_; clear k K))
        refine iq Into.refl (Done.t1 ?_)
        have : ¬ cols.Nodup := by
          intro h
          rw [← List.take_append_drop (i + 1) cols, e5] at h
          have h' := (List.nodup_append.1 h).1
          rw [List.nodup_append] at h'
          exact h'.2.2 x hm x (by simp) rfl
        simp only [go_sem, rowsR, this, decide_false, Bool.false_and, Bool.and_false]
      · repeat (first | refine st_end rfl ?_ | ((first | refine st1 fun K k => ?_ | refine st2 fun K k => ?_ | refine st3 rfl fun K k => ?_ | refine st4 fun K k => ?_); simp only [go_sem]; refine k _ _ _ _ _ _ ?_; clear k K))
        (first | refine st1 fun K k => ?_ | refine st3 rfl fun K k => ?_); simp only [go_sem, setM_find, hm]
        refine ⟨setM_kindP _, ?_⟩
        refine k _ _ _ _ _ _ ?_; clear k K
        repeat (first | refine st_end rfl ?_ | ((first | refine st1 fun K k => ?_ | refine st2 fun K k => ?_ | refine st3 rfl fun K k => ?_ | refine st4 fun K k => ?_); simp only [go_sem]; refine k _ _ _ _ _ _ ?_; clear k K))
        refine st2 fun K k => ?_
        simp only [go_sem]
        refine ⟨setM_kindP _, ?_⟩
        rw [putM_set]
        refine k _ _ _ _ _ _ ?_; clear k K
        have w5 : IntKind.wrap .i64 ((i : Int) + 1) = ((i + 1 : Nat) : Int) := wrapTo (by omega)
        repeat (first | refine st_end rfl ?_ | ((first | refine st1 fun K k => ?_ | refine st2 fun K k => ?_ | refine st3 rfl fun K k => ?_ | refine st4 fun K k => ?_); simp only [go_sem, w5]; refine k _ _ _ _ _ _ ?_; clear k K))
        refine ⟨i + 1, ⟨by omega, ?_, ?_⟩, by omega, Into.le ?_ ?_ (Nat.le_refl _) rfl⟩
        · rw [e5, List.all_append, hi.2.1]; simp [hn]
        · rw [e5, List.nodup_append]
          exact ⟨hi.2.2, by simp, fun a ha b hb => by simp at hb; subst hb; rintro rfl; exact hm ha⟩
        · simp only [go_sem]
        · simp only [go_sem, e5, ins, hm]
  obtain rfl : i = cols.length := by omega
  rw [List.take_length] at hi
  refine iq Into.refl ?_
  repeat (first | refine st_end rfl ?_ | ((first | refine st1 fun K k => ?_ | refine st2 fun K k => ?_ | refine st3 rfl fun K k => ?_ | refine st4 fun K k => ?_); simp only [go_sem]; refine k _ _ _ _ _ _ ?_; clear k K))
  refine W.loopP (fun i : Nat => ⟨[(1, .ep [.v (.int .i64 kd), .s s, .v (.int .i64 dn), .v (.int .i64 ds), .v (.int .i64 num), strsD cols, rowsV rows]), (38, rowsV rows), (39, .v (.int .i64 rows.length)), (40, .v (.int .i64 i))], [], 1, []⟩)
    (fun i => i ≤ rows.length ∧ (rows.take i).all (rowR cols) = true) (fun i => rows.length - i) 0 ⟨by omega, rfl⟩ (Into.le ?_ trivial (Nat.le_refl _) rfl) fun i hi' => W.code (N := 55) [1] hN ?_
  · simp only [go_sem]
    exact LeD.refl _
  repeat (first | refine st_end rfl ?_ | ((first | refine st1 fun K k => ?_ | refine st2 fun K k => ?_ | refine st3 rfl fun K k => ?_ | refine st4 fun K k => ?_); simp only [go_sem]; refine k _ _ _ _ _ _ ?_; clear k K))
  refine st_cond fun A B a b => ?_; simp only [go_sem]; refine ⟨fun g => a ?_, fun g => b ?_⟩ <;> clear a b A B
  · obtain ⟨x, hx⟩ := getS (l := rows) (i := i) (by omega)
    have e5 : rows.take (i + 1) = rows.take i ++ [x] := by rw [List.take_add_one, hx]; rfl
    have hfalse : rowR cols x = false → rows.all (rowR cols) = false := by
      intro hq
      rw [← Bool.not_eq_true, List.all_eq_true]
      intro h
      rw [h x (List.mem_of_getElem? hx)] at hq; cases hq
    by_cases hl : x.length = cols.length
    · have hl' : ((x.length : Int) != cols.length) = false := by simp [hl]
      repeat (first | refine st_end rfl ?_ | ((first | refine st1 fun K k => ?_ | refine st2 fun K k => ?_ | refine st3 rfl fun K k => ?_ | refine st4 fun K k => ?_); simp only [go_sem, hx, hl']; refine k _ _ _ _ _ _ ?_; clear k K))
      (first | refine st1 fun K k => ?_ | refine st3 rfl fun K k => ?_); simp only [go_sem]; refine callP (f196_ok x) ?_; refine k _ _ _ _ _ _ ?_; clear k K
      have hw : rowR cols x = !(x.any fun v => v.kind == 5 || !rightF v) := by simp [rowR, hl]
      cases hq : x.any fun v => v.kind == 5 || !rightF v with
      | true =>
        repeat (first | refine st_end rfl ?_ | ((first | refine st1 fun K k => ?_ | refine st2 fun K k => ?_ | refine st3 rfl fun K k => ?_ | refine st4 fun K k => ?_); simp only [go_sem]; refine k _ _ _ _ _ _ ?_; clear k K))
        refine iq Into.refl (Done.t1 ?_)
        simp only [go_sem, rowsR, hfalse (by rw [hw, hq]; rfl), Bool.and_false]
      | false =>
        have w5 : IntKind.wrap .i64 ((i : Int) + 1) = ((i + 1 : Nat) : Int) := wrapTo (by omega)
        repeat (first | refine st_end rfl ?_ | ((first | refine st1 fun K k => ?_ | refine st2 fun K k => ?_ | refine st3 rfl fun K k => ?_ | refine st4 fun K k => ?_); simp only [go_sem, w5]; refine k _ _ _ _ _ _ ?_; clear k K))
        refine ⟨i + 1, ⟨by omega, ?_⟩, by omega, Into.le ?_ trivial (Nat.le_refl _) rfl⟩
        · rw [e5, List.all_append, hi'.2]; simp [hw, hq]
        · simp only [go_sem]
    · have hl' : ((x.length : Int) != cols.length) = true := by simp; omega
      repeat (first | refine st_end rfl ?_ | ((first | refine st1 fun K k => ?_ | refine st2 fun K k => ?_ | refine st3 rfl fun K k => ?_ | refine st4 fun K k => ?_); simp only [go_sem, hx, hl']; refine k _ _ _ _ _ _ ?_; clear k K))
      refine iq Into.refl (Done.t1 ?_)
      simp only [go_sem, rowsR, hfalse (by simp [rowR, hl]), Bool.and_false]
  · obtain rfl : i = rows.length := by omega
    rw [List.take_length] at hi'
    refine iq Into.refl ?_
    repeat (first | refine st_end rfl ?_ | ((first | refine st1 fun K k => ?_ | refine st2 fun K k => ?_ | refine st3 rfl fun K k => ?_ | refine st4 fun K k => ?_); simp only [go_sem]; refine k _ _ _ _ _ _ ?_; clear k K))
    refine Done.t1 ?_
    simp only [go_sem, rowsR, hi.2.1, hi.2.2, hi'.2, decide_true, show cols.length ≤ 8 by omega, show rows.length ≤ 100 by omega]
theorem f157_ok (kd : Int) (s : List UInt8) (dn ds num : Int) (cols : List (List UInt8)) (rows : List (List Val)) (hs : ∀ c ∈ cols, c.length ≤ 1000000) :
    FnOK sys 157 [.agg (encV (.mk kd s dn ds num cols rows))] [] (.v (.bool (decide (num = 0 ∧ s = [] ∧ dn = 0 ∧ ds = 0) && rowsR cols rows))) [] := by
  refine FnOK.intro Tryz.f157 (by kernel_rfl) rfl rfl [.tmp 2] rfl 0 rfl (Nat.le_of_ble_eq_true rfl) rfl rfl fun E hN h0 => W.code (N := 9) [1] hN ?_
  have h := f147_T kd s dn ds num cols rows
  have h2 := f158_ok kd s dn ds num cols rows hs
  obtain ⟨q, hq⟩ : ∃ q, decide (num = 0 ∧ s = [] ∧ dn = 0 ∧ ds = 0) = q := ⟨_, rfl⟩
  rw [hq] at h ⊢
  simp only [encV] at h h2 ⊢
  repeat (first | refine st_end rfl ?_ | ((first | refine st1 fun K k => ?_ | refine st2 fun K k => ?_ | refine st3 rfl fun K k => ?_ | refine st4 fun K k => ?_); simp only [go_sem]; refine k _ _ _ _ _ _ ?_; clear k K))
  (first | refine st1 fun K k => ?_ | refine st3 rfl fun K k => ?_); simp only [go_sem]; refine callP (h) ?_; refine k _ _ _ _ _ _ ?_; clear k K
  cases q with
  | false =>
    repeat (first | refine st_end rfl ?_ | ((first | refine st1 fun K k => ?_ | refine st2 fun K k => ?_ | refine st3 rfl fun K k => ?_ | refine st4 fun K k => ?_); simp only [go_sem]; refine k _ _ _ _ _ _ ?_; clear k K))
    refine Done.t1 ?_
    simp only [go_sem, Bool.false_and]
  | true =>
    repeat (first | refine st_end rfl ?_ | ((first | refine st1 fun K k => ?_ | refine st2 fun K k => ?_ | refine st3 rfl fun K k => ?_ | refine st4 fun K k => ?_); simp only [go_sem]; refine k _ _ _ _ _ _ ?_; clear k K))
    (first | refine st1 fun K k => ?_ | refine st3 rfl fun K k => ?_); simp only [go_sem]; refine callP (h2) ?_; refine k _ _ _ _ _ _ ?_; clear k K
    repeat (first | refine st_end rfl ?_ | ((first | refine st1 fun K k => ?_ | refine st2 fun K k => ?_ | refine st3 rfl fun K k => ?_ | refine st4 fun K k => ?_); simp only [go_sem]; refine k _ _ _ _ _ _ ?_; clear k K))
    refine Done.t1 ?_
    simp only [go_sem]
def Val.cols : Val → List (List UInt8)
  | .mk _ _ _ _ _ c _ => c
/-- value.Right. -/
theorem f60_ok (v : Val) (hs : ∀ c ∈ v.cols, c.length ≤ 1000000) : FnOK sys 60 [.agg (encV v)] [] (.v (.bool (rightV v))) [] := by
  obtain ⟨kd, s, dn, ds, num, cols, rows⟩ := v
  by_cases h5 : kd = 5
  · subst h5
    have := f60_cls 5 s dn ds num cols rows 157 159 _ (classM_find 5) (f157_ok 5 s dn ds num cols rows hs)
    simpa only [rightV, if_true] using this
  · have := f60_flat (.mk kd s dn ds num cols rows) h5
    simpa only [rightV, if_neg h5] using this
end Go.Proofs.YtjgooecohepkoaaGreatDoor
namespace Go.Proofs.YtjgooecohepkoaaGreatDoor
open Go Go.Abs
set_option linter.unusedSimpArgs false
set_option maxHeartbeats 2000000
/-! ### The reference: names, plain texts, decimals -/
theorem f62_ok (s : List UInt8) (hs : s.length ≤ 1000000) : FnOK sys 62 [.s s] [] (.v (.bool (nameR s))) [] := by
  refine FnOK.intro Tryz.f62 (by kernel_rfl) rfl rfl [.tmp 2] rfl 0 rfl (Nat.le_of_ble_eq_true rfl) rfl rfl fun E hN h0 => W.code (N := 55) [] hN ?_
  repeat (first | refine st_end rfl ?_ | ((first | refine st1 fun K k => ?_ | refine st2 fun K k => ?_ | refine st3 rfl fun K k => ?_ | refine st4 fun K k => ?_); simp only [go_sem]; refine k _ _ _ _ _ _ ?_; clear k K))
  refine W.loopP (fun i : Nat => ⟨[(0, .s s), (3, .v (.int .i64 i))], [], 0, []⟩)
    (fun i => i ≤ s.length ∧ nameFrom 0 s = nameFrom i (s.drop i)) (fun i => s.length - i) 0 ⟨by omega, rfl⟩ (Into.le ?_ trivial (Nat.le_refl _) rfl) fun i hi => W.code (N := 55) [] hN ?_
  · simp only [go_sem]
    exact LeD.refl _
  repeat (first | refine st_end rfl ?_ | ((first | refine st1 fun K k => ?_ | refine st2 fun K k => ?_ | refine st3 rfl fun K k => ?_ | refine st4 fun K k => ?_); simp only [go_sem]; refine k _ _ _ _ _ _ ?_; clear k K))
  refine st_cond fun A B a b => ?_; simp only [go_sem]; refine ⟨fun g => a ?_, fun g => b ?_⟩ <;> clear a b A B
  · obtain ⟨c, hc⟩ := getS (l := s) (i := i) (by omega)
    have hn := nameFrom_drop hc
    have w5 : IntKind.wrap .i64 ((i : Int) + 1) = ((i + 1 : Nat) : Int) := wrapTo (by omega)
    repeat' (first | refine st_end rfl ?_ | ((first | refine st1 fun K k => ?_ | refine st2 fun K k => ?_ | refine st3 rfl fun K k => ?_ | refine st4 fun K k => ?_); simp only [go_sem, hc, w5, beq_iff_eq, beq_eq_false_iff_ne, bne_iff_ne, bne_eq_false_iff_eq, ge_iff_le, Bool.not_eq_true', Bool.not_eq_false']; first | (refine k _ _ _ _ _ _ ?_; clear k K) | (refine ⟨fun _ => ?_, fun _ => ?_⟩ <;> (try simp only [go_sem, hc, w5, beq_iff_eq, beq_eq_false_iff_ne, bne_iff_ne, bne_eq_false_iff_eq, ge_iff_le, Bool.not_eq_true', Bool.not_eq_false']) <;> (refine k _ _ _ _ _ _ ?_; clear k K)) | fail))
    all_goals first
      | refine ⟨i + 1, ⟨by omega, ?_⟩, by omega, Into.le ?_ trivial (Nat.le_refl _) rfl⟩
        · have h1 : nameC i c = true := by
            simp only [nameC, letterB, otherB, Bool.or_eq_true, Bool.and_eq_true, decide_eq_true_eq, beq_iff_eq]
            omega
          rw [hi.2, hn, h1]; rfl
        · simp only [go_sem]
      | repeat (first | refine st_end rfl ?_ | ((first | refine st1 fun K k => ?_ | refine st2 fun K k => ?_ | refine st3 rfl fun K k => ?_ | refine st4 fun K k => ?_); simp only [go_sem]; refine k _ _ _ _ _ _ ?_; clear k K))
        refine iq Into.refl (Done.t1 ?_)
        have h1 : nameC i c = false := by
          simp only [← Bool.not_eq_true, nameC, letterB, otherB, Bool.or_eq_true, Bool.and_eq_true, decide_eq_true_eq, beq_iff_eq]
          omega
        simp only [go_sem, nameR, hi.2, hn, h1, Bool.false_and]
  · refine iq Into.refl ?_
    obtain rfl : i = s.length := by omega
    have h2 : nameFrom 0 s = true := by rw [hi.2, List.drop_length]; rfl
    have e2 : decide ((s.length : Int) ≤ 20) = decide (s.length ≤ 20) := by rw [Bool.eq_iff_iff]; simp only [decide_eq_true_eq]; omega
    by_cases e1 : 1 ≤ (s.length : Int)
    · have e : s ≠ [] := by rintro rfl; simp at e1
      repeat (first | refine st_end rfl ?_ | ((first | refine st1 fun K k => ?_ | refine st2 fun K k => ?_ | refine st3 rfl fun K k => ?_ | refine st4 fun K k => ?_); simp only [go_sem, e1, ge_iff_le, decide_true]; refine k _ _ _ _ _ _ ?_; clear k K))
      refine Done.t1 ?_
      simp only [go_sem, nameR, h2, e2, e, not_false_eq_true, decide_true]
    · have e : s = [] := List.eq_nil_of_length_eq_zero (by omega)
      repeat (first | refine st_end rfl ?_ | ((first | refine st1 fun K k => ?_ | refine st2 fun K k => ?_ | refine st3 rfl fun K k => ?_ | refine st4 fun K k => ?_); simp only [go_sem, e1, ge_iff_le, decide_false]; refine k _ _ _ _ _ _ ?_; clear k K))
      refine Done.t1 ?_
      simp only [go_sem, nameR, e, decide_false, Bool.and_false, Bool.false_and]
theorem f103_ok (s : List UInt8) (hs : s.length ≤ 1000000) : FnOK sys 103 [.s s] [] (.v (.bool (plainR s))) [] := by
  refine FnOK.intro Tryz.f103 (by kernel_rfl) rfl rfl [.tmp 2] rfl 0 rfl (Nat.le_of_ble_eq_true rfl) rfl rfl fun E hN h0 => W.code (N := 23) [] hN ?_
  repeat (first | refine st_end rfl ?_ | ((first | refine st1 fun K k => ?_ | refine st2 fun K k => ?_ | refine st3 rfl fun K k => ?_ | refine st4 fun K k => ?_); simp only [go_sem]; refine k _ _ _ _ _ _ ?_; clear k K))
  refine W.loopP (fun i : Nat => ⟨[(0, .s s), (3, .v (.int .i64 i))], [], 0, []⟩)
    (fun i => i ≤ s.length ∧ (s.take i).all plainB = true) (fun i => s.length - i) 0 ⟨by omega, rfl⟩ (Into.le ?_ trivial (Nat.le_refl _) rfl) fun i hi => W.code (N := 23) [] hN ?_
  · simp only [go_sem]
    exact LeD.refl _
  repeat (first | refine st_end rfl ?_ | ((first | refine st1 fun K k => ?_ | refine st2 fun K k => ?_ | refine st3 rfl fun K k => ?_ | refine st4 fun K k => ?_); simp only [go_sem]; refine k _ _ _ _ _ _ ?_; clear k K))
  refine st_cond fun A B a b => ?_; simp only [go_sem]; refine ⟨fun g => a ?_, fun g => b ?_⟩ <;> clear a b A B
  · obtain ⟨c, hc⟩ := getS (l := s) (i := i) (by omega)
    have e5 : s.take (i + 1) = s.take i ++ [c] := by rw [List.take_add_one, hc]; rfl
    have w5 : IntKind.wrap .i64 ((i : Int) + 1) = ((i + 1 : Nat) : Int) := wrapTo (by omega)
    repeat' (first | refine st_end rfl ?_ | ((first | refine st1 fun K k => ?_ | refine st2 fun K k => ?_ | refine st3 rfl fun K k => ?_ | refine st4 fun K k => ?_); simp only [go_sem, hc, w5]; first | (refine k _ _ _ _ _ _ ?_; clear k K) | (refine ⟨fun _ => ?_, fun _ => ?_⟩ <;> (try simp only [go_sem, hc, w5]) <;> (refine k _ _ _ _ _ _ ?_; clear k K)) | fail))
    all_goals first
      | refine ⟨i + 1, ⟨by omega, ?_⟩, by omega, Into.le ?_ trivial (Nat.le_refl _) rfl⟩
        · have h1 : plainB c = true := by
            simp only [plainB, Bool.and_eq_true, decide_eq_true_eq]
            omega
          rw [e5, List.all_append, hi.2]; simp [h1]
        · simp only [go_sem]
      | repeat (first | refine st_end rfl ?_ | ((first | refine st1 fun K k => ?_ | refine st2 fun K k => ?_ | refine st3 rfl fun K k => ?_ | refine st4 fun K k => ?_); simp only [go_sem]; refine k _ _ _ _ _ _ ?_; clear k K))
        refine iq Into.refl (Done.t1 ?_)
        have h1 : plainB c = false := by
          simp only [← Bool.not_eq_true, plainB, Bool.and_eq_true, decide_eq_true_eq]
          omega
        have h2 : s.all plainB = false := by
          rw [← Bool.not_eq_true, List.all_eq_true]
          intro h
          rw [h c (List.mem_of_getElem? hc)] at h1; cases h1
        simp only [go_sem, plainR, h2, Bool.and_false]
  · refine iq Into.refl ?_
    obtain rfl : i = s.length := by omega
    rw [List.take_length] at hi
    have e2 : decide ((s.length : Int) ≤ 200) = decide (s.length ≤ 200) := by rw [Bool.eq_iff_iff]; simp only [decide_eq_true_eq]; omega
    repeat (first | refine st_end rfl ?_ | ((first | refine st1 fun K k => ?_ | refine st2 fun K k => ?_ | refine st3 rfl fun K k => ?_ | refine st4 fun K k => ?_); simp only [go_sem]; refine k _ _ _ _ _ _ ?_; clear k K))
    refine Done.t1 ?_
    simp only [go_sem, plainR, hi.2, e2]
theorem f104_ok (n s : Int) : FnOK sys 104 [.agg [.v (.int .i64 n), .v (.int .i64 s)]] [] (.v (.bool (decR n s))) [] := by
  refine FnOK.intro Tryz.f104 (by kernel_rfl) rfl rfl [.tmp 2] rfl 0 rfl (Nat.le_of_ble_eq_true rfl) rfl rfl fun E hN h0 => W.code (N := 32) [1] hN ?_
  repeat' (first | refine st_end rfl ?_ | ((first | refine st1 fun K k => ?_ | refine st2 fun K k => ?_ | refine st3 rfl fun K k => ?_ | refine st4 fun K k => ?_); simp only [go_sem, ge_iff_le, beq_iff_eq, beq_eq_false_iff_ne, bne_iff_ne, bne_eq_false_iff_eq]; first | (refine k _ _ _ _ _ _ ?_; clear k K) | (refine ⟨fun _ => ?_, fun _ => ?_⟩ <;> (try simp only [go_sem, ge_iff_le, beq_iff_eq, beq_eq_false_iff_ne, bne_iff_ne, bne_eq_false_iff_eq]) <;> (refine k _ _ _ _ _ _ ?_; clear k K)) | fail))
  all_goals
    refine Done.t1 ?_
    simp only [go_sem, decR]
    rw [Bool.eq_iff_iff]
    simp only [Bool.and_eq_true, Bool.or_eq_true, decide_eq_true_eq, beq_iff_eq, bne_iff_ne, Bool.not_eq_true', beq_eq_false_iff_ne, true_iff, false_iff, iff_true, iff_false, ge_iff_le, ne_eq, reduceCtorEq]
    omega
theorem f160_ok (cols : List (List UInt8)) (hs : ∀ c ∈ cols, c.length ≤ 1000000) : FnOK sys 160 [strsD cols] [] (.v (.bool (cols.all nameR && decide cols.Nodup))) [] := by
  refine FnOK.intro Tryz.f160 (by kernel_rfl) rfl rfl [.tmp 2] rfl 0 rfl (Nat.le_of_ble_eq_true rfl) rfl rfl fun E hN h0 => W.bound 0 rfl fun hb => W.code (N := 36) [] hN ?_
  simp only [List.length_map, maxLen] at hb
  repeat (first | refine st_end rfl ?_ | ((first | refine st1 fun K k => ?_ | refine st2 fun K k => ?_ | refine st3 rfl fun K k => ?_ | refine st4 fun K k => ?_); simp only [go_sem]; refine k _ _ _ _ _ _ ?_; clear k K))
  refine W.loopP (fun i : Nat => ⟨[(0, strsD cols), (3, .v (.int .i64 i))], [], 0, []⟩)
    (fun i => i ≤ cols.length ∧ (cols.take i).all nameR = true ∧ (cols.take i).Nodup) (fun i => cols.length - i) 0 ⟨by omega, rfl, List.nodup_nil⟩ (Into.le ?_ trivial (Nat.le_refl _) rfl) fun i hi => W.code (N := 36) [] hN ?_
  · simp only [go_sem]
    exact LeD.refl _
  repeat (first | refine st_end rfl ?_ | ((first | refine st1 fun K k => ?_ | refine st2 fun K k => ?_ | refine st3 rfl fun K k => ?_ | refine st4 fun K k => ?_); simp only [go_sem]; refine k _ _ _ _ _ _ ?_; clear k K))
  refine st_cond fun A B a b => ?_; simp only [go_sem]; refine ⟨fun g => a ?_, fun g => b ?_⟩ <;> clear a b A B
  · obtain ⟨x, hx⟩ := getS (l := cols) (i := i) (by omega)
    have e5 : cols.take (i + 1) = cols.take i ++ [x] := by rw [List.take_add_one, hx]; rfl
    have w5 : IntKind.wrap .i64 ((i : Int) + 1) = ((i + 1 : Nat) : Int) := wrapTo (by omega)
    repeat (first | refine st_end rfl ?_ | ((first | refine st1 fun K k => ?_ | refine st2 fun K k => ?_ | refine st3 rfl fun K k => ?_ | refine st4 fun K k => ?_); simp only [go_sem, hx]; refine k _ _ _ _ _ _ ?_; clear k K))
    (first | refine st1 fun K k => ?_ | refine st3 rfl fun K k => ?_); simp only [go_sem]; refine callP (f62_ok x (hs x (List.mem_of_getElem? hx))) ?_; refine k _ _ _ _ _ _ ?_; clear k K
    repeat (first | refine st_end rfl ?_ | ((first | refine st1 fun K k => ?_ | refine st2 fun K k => ?_ | refine st3 rfl fun K k => ?_ | refine st4 fun K k => ?_); simp only [go_sem]; refine k _ _ _ _ _ _ ?_; clear k K))
    refine W.loopP (fun j : Nat => ⟨[(0, strsD cols), (3, .v (.int .i64 i)), (4, .v (.bool (nameR x && !decide (x ∈ cols.take j)))), (5, .v (.int .i64 j))], [], 0, []⟩)
      (fun j => j ≤ i) (fun j => i - j) 0 (Nat.zero_le _) (Into.le ?_ trivial (Nat.le_refl _) rfl) fun j hj => W.code (N := 36) [] hN ?_
    · simp only [go_sem, List.not_mem_nil, decide_false, Bool.not_false, Bool.and_true]
      exact LeD.refl _
    repeat (first | refine st_end rfl ?_ | ((first | refine st1 fun K k => ?_ | refine st2 fun K k => ?_ | refine st3 rfl fun K k => ?_ | refine st4 fun K k => ?_); simp only [go_sem]; refine k _ _ _ _ _ _ ?_; clear k K))
    refine st_cond fun A B a b => ?_; simp only [go_sem]; refine ⟨fun g => a ?_, fun g => b ?_⟩ <;> clear a b A B
    · obtain ⟨y, hy⟩ := getS (l := cols) (i := j) (by omega)
      have e6 : cols.take (j + 1) = cols.take j ++ [y] := by rw [List.take_add_one, hy]; rfl
      have w6 : IntKind.wrap .i64 ((j : Int) + 1) = ((j + 1 : Nat) : Int) := wrapTo (by omega)
      have hstep : (nameR x && !decide (x ∈ cols.take (j + 1))) = ((nameR x && !decide (x ∈ cols.take j)) && !(y == x)) := by
        rw [e6, Bool.eq_iff_iff]
        simp only [Bool.and_eq_true, Bool.not_eq_true', decide_eq_false_iff_not, List.mem_append, List.mem_singleton, not_or, beq_eq_false_iff_ne, ne_eq, and_assoc]
        constructor
        · rintro ⟨a, b, c⟩; exact ⟨a, b, fun h => c h.symm⟩
        · rintro ⟨a, b, c⟩; exact ⟨a, b, fun h => c h.symm⟩
      cases hq : nameR x && !decide (x ∈ cols.take j) with
      | false =>
        repeat (first | refine st_end rfl ?_ | ((first | refine st1 fun K k => ?_ | refine st2 fun K k => ?_ | refine st3 rfl fun K k => ?_ | refine st4 fun K k => ?_); simp only [go_sem, w6]; refine k _ _ _ _ _ _ ?_; clear k K))
        refine ⟨j + 1, by omega, by omega, Into.le ?_ trivial (Nat.le_refl _) rfl⟩
        simp only [go_sem, hstep, hq, Bool.false_and]
      | true =>
        repeat (first | refine st_end rfl ?_ | ((first | refine st1 fun K k => ?_ | refine st2 fun K k => ?_ | refine st3 rfl fun K k => ?_ | refine st4 fun K k => ?_); simp only [go_sem, w6, hx, hy]; refine k _ _ _ _ _ _ ?_; clear k K))
        refine ⟨j + 1, by omega, by omega, Into.le ?_ trivial (Nat.le_refl _) rfl⟩
        simp only [go_sem, hstep, hq, Bool.true_and]
    obtain rfl : j = i := by omega
    refine iq Into.refl ?_
    cases hq : nameR x && !decide (x ∈ cols.take j) with
    | false =>
      repeat (first | refine st_end rfl ?_ | ((first | refine st1 fun K k => ?_ | refine st2 fun K k => ?_ | refine st3 rfl fun K k => ?_ | refine st4 fun K k => ?_); simp only [go_sem]; refine k _ _ _ _ _ _ ?_; clear k K))
      refine iq Into.refl (Done.t1 ?_)
      have : (cols.all nameR && decide cols.Nodup) = false := by
        rw [← Bool.not_eq_true]
        intro h
        simp only [Bool.and_eq_true, decide_eq_true_eq, List.all_eq_true] at h
        obtain ⟨h1, h2⟩ := h
        have hm : x ∉ cols.take j := by
          rw [← List.take_append_drop (j + 1) cols, e5] at h2
          have h' := (List.nodup_append.1 h2).1
          rw [List.nodup_append] at h'
          exact fun hm => h'.2.2 x hm x (by simp) rfl
        rw [h1 x (List.mem_of_getElem? hx)] at hq
        simp [hm] at hq
      simp only [go_sem, this]
    | true =>
      simp only [Bool.and_eq_true, Bool.not_eq_true', decide_eq_false_iff_not] at hq
      repeat (first | refine st_end rfl ?_ | ((first | refine st1 fun K k => ?_ | refine st2 fun K k => ?_ | refine st3 rfl fun K k => ?_ | refine st4 fun K k => ?_); simp only [go_sem, w5]; refine k _ _ _ _ _ _ ?_; clear k K))
      refine ⟨j + 1, ⟨by omega, ?_, ?_⟩, by omega, Into.le ?_ trivial (Nat.le_refl _) rfl⟩
      · rw [e5, List.all_append, hi.2.1]; simp [hq.1]
      · rw [e5, List.nodup_append]
        exact ⟨hi.2.2, by simp, fun a ha b hb => by simp at hb; subst hb; rintro rfl; exact hq.2 ha⟩
      · simp only [go_sem]
  · obtain rfl : i = cols.length := by omega
    rw [List.take_length] at hi
    refine iq Into.refl ?_
    repeat (first | refine st_end rfl ?_ | ((first | refine st1 fun K k => ?_ | refine st2 fun K k => ?_ | refine st3 rfl fun K k => ?_ | refine st4 fun K k => ?_); simp only [go_sem]; refine k _ _ _ _ _ _ ?_; clear k K))
    refine Done.t1 ?_
    simp only [go_sem, hi.2.1, hi.2.2, decide_true]
end Go.Proofs.YtjgooecohepkoaaGreatDoor
