/- Contracts of the functions that the statement reaches. -/
import Derived.Test.YtjgooecohepkoaaGreatDoorSAO
set_option linter.unusedVariables false
set_option linter.unusedSimpArgs false
namespace Go.Proofs.YtjgooecohepkoaaGreatDoor
open Go Go.Abs
set_option linter.unusedSimpArgs false
set_option maxHeartbeats 2000000
/-! ### The reference's Set -/
theorem f50_ok (name : List UInt8) (cols : List (List UInt8)) (rows : List (List Val)) (hv : Small (.mk 5 [] 0 0 0 cols rows)) :
    FnOK sys 50 [.agg [.s name, strsD cols, rowsV rows]] [] (.agg [.s name, strsD cols, rowsV rows]) [] := by
  refine FnOK.intro Tryz.f50 (by kernel_rfl) rfl rfl [.cell 2 28] rfl 0 rfl (Nat.le_of_ble_eq_true rfl) rfl rfl fun E hN h0 => W.code (N := 14) [1] hN ?_
  have h21 := f21_ok name cols rows
  have h82 := f82_ok _ hv
  have hrl : encRs rows = rows.map fun r => [rowV r] := by rw [encRs_map, List.map_map]; rfl
  simp only [encV, hrl] at h21 h82
  repeat (first | refine st_end rfl ?_ | ((first | refine st1 fun K k => ?_ | refine st2 fun K k => ?_ | refine st3 rfl fun K k => ?_ | refine st4 fun K k => ?_); simp only [go_sem]; refine k _ _ _ _ _ _ ?_; clear k K))
  (first | refine st1 fun K k => ?_ | refine st3 rfl fun K k => ?_); simp only [go_sem]; refine callP (h21) ?_; refine k _ _ _ _ _ _ ?_; clear k K
  repeat (first | refine st_end rfl ?_ | ((first | refine st1 fun K k => ?_ | refine st2 fun K k => ?_ | refine st3 rfl fun K k => ?_ | refine st4 fun K k => ?_); simp only [go_sem]; refine k _ _ _ _ _ _ ?_; clear k K))
  (first | refine st1 fun K k => ?_ | refine st3 rfl fun K k => ?_); simp only [go_sem]; refine callP (h82) ?_; refine k _ _ _ _ _ _ ?_; clear k K
  repeat (first | refine st_end rfl ?_ | ((first | refine st1 fun K k => ?_ | refine st2 fun K k => ?_ | refine st3 rfl fun K k => ?_ | refine st4 fun K k => ?_); simp only [go_sem]; refine k _ _ _ _ _ _ ?_; clear k K))
  refine Done.mk (.inr rfl) Into.refl rfl [] 0 rfl ?_ trivial rfl
  simp only [go_sem]
theorem insL_len (t : TT) (l : List TT) : (insL t l).length = l.length + 1 := by
  have := congrArg List.length (List.takeWhile_append_dropWhile (p := fun x : TT => !Op.bytesLess t.1 x.1) (l := l))
  unfold insL
  simp only [List.length_append, List.length_cons] at this ⊢
  omega
theorem fold_len : ∀ (l acc : List TT), (l.foldl (fun acc t => insL t acc) acc).length = acc.length + l.length
  | [], _ => rfl
  | t :: r, acc => by rw [List.foldl_cons, fold_len r, insL_len, List.length_cons]; omega
theorem le_not (a b : List UInt8) : (Op.bytesLess a b || a == b) = !Op.bytesLess b a := by
  rw [bLess_lt, bLess_lt]
  by_cases h1 : a < b
  · have := List.lt_asymm h1
    simp [h1, this]
  · by_cases h2 : a = b
    · subst h2; simp [List.lt_irrefl]
    · have h3 : b < a := by
        rcases Classical.em (b < a) with h | h
        · exact h
        · exact absurd (List.le_antisymm (List.not_lt.1 h) (List.not_lt.1 h1)) h2
      simp [h1, h2, h3]
theorem insL_at {t : TT} {l : List TT} {j : Nat} (hj : j ≤ l.length) (h1 : ∀ y ∈ l.take j, Op.bytesLess t.1 y.1 = false) (h2 : ∀ y, l[j]? = some y → Op.bytesLess t.1 y.1 = true) : insL t l = l.take j ++ t :: l.drop j := by
  have e : l = l.take j ++ l.drop j := (List.take_append_drop j l).symm
  have a1 : ∀ y ∈ l.take j, (!Op.bytesLess t.1 y.1) = true := fun y hy => by rw [h1 y hy]; rfl
  have a2 : (l.drop j).takeWhile (fun x : TT => !Op.bytesLess t.1 x.1) = [] ∧ (l.drop j).dropWhile (fun x : TT => !Op.bytesLess t.1 x.1) = l.drop j := by
    cases hd : l.drop j with
    | nil => exact ⟨rfl, rfl⟩
    | cons y q =>
      have hy : l[j]? = some y := by
        have := congrArg List.head? hd
        simpa [List.head?_drop] using this
      have := h2 y hy
      simp [List.takeWhile_cons, List.dropWhile_cons, this]
  unfold insL
  have t1 : l.takeWhile (fun x : TT => !Op.bytesLess t.1 x.1) = l.take j := by
    conv => lhs; rw [e]
    rw [List.takeWhile_append_of_pos a1, a2.1, List.append_nil]
  have t2 : l.dropWhile (fun x : TT => !Op.bytesLess t.1 x.1) = l.drop j := by
    conv => lhs; rw [e]
    rw [List.dropWhile_append_of_pos a1, a2.2]
  rw [t1, t2]
open Classical in
theorem f40_ok (l : List TT) : FnOK sys 40 [tabsD l, tabsD l] [] (.v (.bool true)) [] := by
  refine FnOK.intro Tryz.f40 (by kernel_rfl) rfl rfl [.tmp 4] rfl 0 rfl (Nat.le_of_ble_eq_true rfl) rfl rfl fun E hN h0 => W.bound 0 rfl fun hb => W.code (N := 42) [] hN ?_
  simp only [List.length_map, maxLen] at hb
  have q1 : ((l.length : Int) == (l.length : Int)) = true := by simp
  repeat (first | refine st_end rfl ?_ | ((first | refine st1 fun K k => ?_ | refine st2 fun K k => ?_ | refine st3 rfl fun K k => ?_ | refine st4 fun K k => ?_); simp only [go_sem, tabsD, List.length_map, bne_self_eq_false, beq_self_eq_true, Bool.not_true]; refine k _ _ _ _ _ _ ?_; clear k K))

  refine W.loopP (fun i : Nat => ⟨[(0, tabsD l), (1, tabsD l), (5, .v (.int .i64 i))], [], 0, []⟩)
    (fun i => i ≤ l.length) (fun i => l.length - i) 0 (Nat.zero_le _) (Into.le ?_ ?_ (Nat.le_refl _) rfl) fun i hi => W.code (N := 42) [] hN ?_
  · simp only [go_sem, tabsD]
    exact LeD.refl _
  · simp only [go_sem]
  repeat (first | refine st_end rfl ?_ | ((first | refine st1 fun K k => ?_ | refine st2 fun K k => ?_ | refine st3 rfl fun K k => ?_ | refine st4 fun K k => ?_); simp only [go_sem, tabsD, List.length_map]; refine k _ _ _ _ _ _ ?_; clear k K))
  refine st_cond fun A B a b => ?_; simp only [go_sem]; refine ⟨fun g => a ?_, fun g => b ?_⟩ <;> clear a b A B
  · obtain ⟨⟨n', c', r'⟩, hx⟩ := getS (l := l) (i := i) (by omega)
    have w5 : IntKind.wrap .i64 ((i : Int) + 1) = ((i + 1 : Nat) : Int) := wrapTo (by omega)
    have h21 := f21_ok n' c' r'
    have ha := f18_ok (.mk 5 [] 0 0 0 c' r') (.mk 5 [] 0 0 0 c' r')
    rw [decide_eq_true rfl] at ha
    have hrl : ∀ rows, encRs rows = rows.map fun r => [rowV r] := fun rows => by rw [encRs_map, List.map_map]; rfl
    simp only [encV, hrl] at h21 ha
    repeat (first | refine st_end rfl ?_ | ((first | refine st1 fun K k => ?_ | refine st2 fun K k => ?_ | refine st3 rfl fun K k => ?_ | refine st4 fun K k => ?_); simp only [go_sem, tabsD, hx, encT_e, beq_self_eq_true, Bool.not_true]; refine k _ _ _ _ _ _ ?_; clear k K))
    (first | refine st1 fun K k => ?_ | refine st3 rfl fun K k => ?_); simp only [go_sem]; refine callP (h21) ?_; refine k _ _ _ _ _ _ ?_; clear k K
    repeat (first | refine st_end rfl ?_ | ((first | refine st1 fun K k => ?_ | refine st2 fun K k => ?_ | refine st3 rfl fun K k => ?_ | refine st4 fun K k => ?_); simp only [go_sem, tabsD, hx, encT_e, beq_self_eq_true, Bool.not_true]; refine k _ _ _ _ _ _ ?_; clear k K))
    (first | refine st1 fun K k => ?_ | refine st3 rfl fun K k => ?_); simp only [go_sem]; refine callP (h21) ?_; refine k _ _ _ _ _ _ ?_; clear k K
    repeat (first | refine st_end rfl ?_ | ((first | refine st1 fun K k => ?_ | refine st2 fun K k => ?_ | refine st3 rfl fun K k => ?_ | refine st4 fun K k => ?_); simp only [go_sem]; refine k _ _ _ _ _ _ ?_; clear k K))
    (first | refine st1 fun K k => ?_ | refine st3 rfl fun K k => ?_); simp only [go_sem]; refine callP (ha) ?_; refine k _ _ _ _ _ _ ?_; clear k K
    repeat (first | refine st_end rfl ?_ | ((first | refine st1 fun K k => ?_ | refine st2 fun K k => ?_ | refine st3 rfl fun K k => ?_ | refine st4 fun K k => ?_); simp only [go_sem, Bool.not_true, w5]; refine k _ _ _ _ _ _ ?_; clear k K))
    refine ⟨i + 1, by omega, by omega, Into.le ?_ ?_ (Nat.le_refl _) rfl⟩
    · simp only [go_sem, tabsD]
    · simp only [go_sem]
  · refine iq Into.refl ?_
    repeat (first | refine st_end rfl ?_ | ((first | refine st1 fun K k => ?_ | refine st2 fun K k => ?_ | refine st3 rfl fun K k => ?_ | refine st4 fun K k => ?_); simp only [go_sem]; refine k _ _ _ _ _ _ ?_; clear k K))
    refine Done.t1 ?_
    simp only [go_sem]
theorem f39_ok (b : List TT) (n : List UInt8) (c : List (List UInt8)) (r : List (List Val)) (hb : ∀ x ∈ b, GoodT x) (ht : GoodT (n, c, r)) (hl : b.length ≤ 6) :
    FnOK sys 39 [tabsD b, .agg [.s n, strsD c, rowsV r]] [] (.tup [tabsD (setT b (n, c, r)).1, .v (.int .i64 (setT b (n, c, r)).2)]) [] := by
  have h20 := f20_ok n c r ht.g.hn ht.g.hc ht.g.hs
  cases hr : rightT n c r with
  | false =>
    have e : setT b (n, c, r) = ([], 1) := by simp [setT, hr]
    rw [e]
    refine FnOK.leRes ?_ (tabs_nil 1)
    rw [hr] at h20
    refine FnOK.intro Tryz.f39 (by kernel_rfl) rfl rfl [.tmp 4, .tmp 5] rfl 0 rfl (Nat.le_of_ble_eq_true rfl) rfl rfl fun E hN h0 => W.code (N := 95) [3, 36, 50] hN ?_
    repeat (first | refine st_end rfl ?_ | ((first | refine st1 fun K k => ?_ | refine st2 fun K k => ?_ | refine st3 rfl fun K k => ?_ | refine st4 fun K k => ?_); simp only [go_sem]; refine k _ _ _ _ _ _ ?_; clear k K))
    (first | refine st1 fun K k => ?_ | refine st3 rfl fun K k => ?_); simp only [go_sem]; refine callP (h20) ?_; refine k _ _ _ _ _ _ ?_; clear k K
    repeat (first | refine st_end rfl ?_ | ((first | refine st1 fun K k => ?_ | refine st2 fun K k => ?_ | refine st3 rfl fun K k => ?_ | refine st4 fun K k => ?_); simp only [go_sem]; refine k _ _ _ _ _ _ ?_; clear k K))
    refine Done.t2 ?_
    simp only [go_sem]
  | true =>
    rw [hr] at h20
    refine FnOK.intro Tryz.f39 (by kernel_rfl) rfl rfl [.tmp 4, .tmp 5] rfl 0 rfl (Nat.le_of_ble_eq_true rfl) rfl rfl fun E hN h0 => W.code (N := 95) [3, 36, 50] hN ?_
    repeat (first | refine st_end rfl ?_ | ((first | refine st1 fun K k => ?_ | refine st2 fun K k => ?_ | refine st3 rfl fun K k => ?_ | refine st4 fun K k => ?_); simp only [go_sem]; refine k _ _ _ _ _ _ ?_; clear k K))
    (first | refine st1 fun K k => ?_ | refine st3 rfl fun K k => ?_); simp only [go_sem]; refine callP (h20) ?_; refine k _ _ _ _ _ _ ?_; clear k K
    repeat (first | refine st_end rfl ?_ | ((first | refine st1 fun K k => ?_ | refine st2 fun K k => ?_ | refine st3 rfl fun K k => ?_ | refine st4 fun K k => ?_); simp only [go_sem]; refine k _ _ _ _ _ _ ?_; clear k K))
    refine W.loopP (fun i : Nat => ⟨[(0, tabsD b), (3, .ep [.s n, strsD c, rowsV r]), (7, .own 0 (restT (b.take i) n).length), (8, .v (.int .i64 i))],
        [(0, .row 28 3 ((restT (b.take i) n).map encT))], 1, []⟩)
      (fun i => i ≤ b.length) (fun i => b.length - i) 0 (Nat.zero_le _) ((Into.nilRow 7 28 3 rfl).trans (Into.le ?_ ?_ (Nat.le_refl _) rfl)) fun i hi => W.code (N := 95) [3, 36, 50] hN ?_
    · simp only [go_sem, tabsD, List.take_zero, restT, List.filter_nil]
      exact LeD.refl _
    · simp only [go_sem, List.take_zero, List.map_nil, restT, List.filter_nil]
    repeat (first | refine st_end rfl ?_ | ((first | refine st1 fun K k => ?_ | refine st2 fun K k => ?_ | refine st3 rfl fun K k => ?_ | refine st4 fun K k => ?_); simp only [go_sem, tabsD, List.length_map]; refine k _ _ _ _ _ _ ?_; clear k K))
    refine st_cond fun A B a b => ?_; simp only [go_sem]; refine ⟨fun g => a ?_, fun g => b ?_⟩ <;> clear a b A B
    · obtain ⟨⟨n', c', r'⟩, hx⟩ := getS (l := b) (i := i) (by omega)
      have w5 : IntKind.wrap .i64 ((i : Int) + 1) = ((i + 1 : Nat) : Int) := wrapTo (by omega)
      have e5 : b.take (i + 1) = b.take i ++ [(n', c', r')] := by rw [List.take_add_one, hx]; rfl
      have e6 := rest_snoc (b.take i) (n', c', r') n
      have hl0 := rest_len (b.take i) n
      have hl1 : (b.take i).length = i := by rw [List.length_take]; omega
      by_cases hne : n' = n
      · subst hne
        rw [if_pos rfl] at e6
        repeat (first | refine st_end rfl ?_ | ((first | refine st1 fun K k => ?_ | refine st2 fun K k => ?_ | refine st3 rfl fun K k => ?_ | refine st4 fun K k => ?_); simp only [go_sem, tabsD, hx, encT_e, beq_self_eq_true, Bool.not_true, w5]; refine k _ _ _ _ _ _ ?_; clear k K))
        refine ⟨i + 1, by omega, by omega, (Into.ren h0 [(0, 0)] 1 rfl).trans (Into.le ?_ ?_ (Nat.le_refl _) rfl)⟩
        · simp only [go_sem, newOf, e5, e6, tabsD, subL_encT]
        · simp only [go_sem, newOf, e5, e6, tabsD, subL_encT]
      · rw [if_neg hne] at e6
        have hne' : (n' == n) = false := by simpa using hne
        have b1 : (restT (b.take i) n).length + 1 ≤ maxLen := by unfold maxLen; omega
        have b2 : ((restT (b.take i) n).length + 1) * 64 ≤ 140737488355328 := by omega
        repeat (first | refine st_end rfl ?_ | ((first | refine st1 fun K k => ?_ | refine st2 fun K k => ?_ | refine st3 rfl fun K k => ?_ | refine st4 fun K k => ?_); simp only [go_sem, tabsD, hx, encT_e, hne', Bool.not_false, b1, b2, List.length_map, w5]; refine k _ _ _ _ _ _ ?_; clear k K))
        refine ⟨i + 1, by omega, by omega, (Into.ren h0 [(0, 1)] 1 rfl).trans (Into.le ?_ ?_ (Nat.le_refl _) rfl)⟩
        · simp only [go_sem, newOf, e5, e6, tabsD, List.length_append, List.length_cons, List.length_nil]
        · simp only [go_sem, newOf, e5, e6, tabsD, subL_encT, List.map_append, List.map_cons, List.map_nil, encT_e]
    · obtain rfl : i = b.length := by omega
      rw [List.take_length]
      have hl0 := rest_len b n
      obtain ⟨R, hR⟩ : ∃ R, restT b n = R := ⟨_, rfl⟩
      have hRl : R.length ≤ 6 := by rw [← hR]; omega
      by_cases hfull : R.length = b.length ∧ 6 ≤ b.length
      · have e : setT b (n, c, r) = ([], 2) := by simp [setT, hr, hR, hfull]
        rw [e]
        have q1 : ((R.length : Int) == (b.length : Int)) = true := by rw [hfull.1]; simp
        have q2 : ((6 : Int) ≤ (b.length : Int)) := by omega
        refine iq Into.refl ?_
        rw [hR]
        repeat (first | refine st_end rfl ?_ | ((first | refine st1 fun K k => ?_ | refine st2 fun K k => ?_ | refine st3 rfl fun K k => ?_ | refine st4 fun K k => ?_); simp only [go_sem, tabsD, q1, q2, decide_true, List.length_map]; refine k _ _ _ _ _ _ ?_; clear k K))
        simp only [go_sem]
        refine Done.into (Into.le (st' := ⟨[(4, tabsD []), (5, .v (.int .i64 2))], [], 1, []⟩) ?_ ?_ (Nat.le_refl _) rfl) (Done.t2 ?_)
        · simp only [go_sem]
          exact LeD.nil 3
        · simp only [go_sem]
        · rfl
      · have e : setT b (n, c, r) = (sortN (R ++ [(n, c, r)]), 0) := by simp [setT, hr, hR, hfull]
        rw [e]
        have b1 : R.length + 1 ≤ maxLen := by unfold maxLen; omega
        have b2 : (R.length + 1) * 64 ≤ 140737488355328 := by omega
        have hlen : (R ++ [(n, c, r)]).length = R.length + 1 := by simp
        obtain ⟨L, hL⟩ : ∃ L, R ++ [(n, c, r)] = L := ⟨_, rfl⟩
        have hgood : ∀ x ∈ L, GoodT x := by
          intro x hx
          rw [← hL] at hx
          rcases List.mem_append.1 hx with hx | hx
          · rw [← hR] at hx; exact hb x (List.mem_filter.1 hx).1
          · simp at hx; subst hx; exact ht
        refine iq Into.refl ?_
        rw [hR]
        have hLl : L.length ≤ 7 := by rw [← hL]; simp; omega
        have hlen2 : R.length + 1 = L.length := by rw [← hL]; simp
        have hLm : R.map encT ++ [[.s n, strsD c, rowsV r]] = L.map encT := by rw [← hL, List.map_append]; rfl
        simp only [strsD, rowsV, rowV] at hLm
        clear e
        by_cases q : R.length = b.length
        case' pos =>
          have q1 : ((R.length : Int) == (b.length : Int)) = true := by rw [q]; simp
          have q2 : ¬ ((6 : Int) ≤ (b.length : Int)) := fun h => hfull ⟨q, by omega⟩
          repeat (first | refine st_end rfl ?_ | ((first | refine st1 fun K k => ?_ | refine st2 fun K k => ?_ | refine st3 rfl fun K k => ?_ | refine st4 fun K k => ?_); simp only [go_sem, tabsD, q1, q2, decide_false, List.length_map, b1, b2]; refine k _ _ _ _ _ _ ?_; clear k K))
        case' neg =>
          have q1 : ((R.length : Int) == (b.length : Int)) = false := by simp; omega
          repeat (first | refine st_end rfl ?_ | ((first | refine st1 fun K k => ?_ | refine st2 fun K k => ?_ | refine st3 rfl fun K k => ?_ | refine st4 fun K k => ?_); simp only [go_sem, tabsD, q1, List.length_map, b1, b2]; refine k _ _ _ _ _ _ ?_; clear k K))
        all_goals
          refine W.loopP (fun k : Nat => ⟨[(7, tabsD L), (9, tabsD ((L.take k).foldl (fun acc t => insL t acc) [])), (10, .v (.int .i64 k))], [], 2, []⟩)
            (fun k => k ≤ L.length) (fun k => L.length - k) 0 (Nat.zero_le _) ((Into.frz [1] ?_).trans (Into.le ?_ ?_ (Nat.le_refl _) rfl)) fun k hk => W.code (N := 95) [3, 36, 50] hN ?_
          · simp only [go_sem, hLm]
            intro e he
            obtain ⟨q, _, rfl⟩ := List.mem_map.1 he; rfl
          · simp only [go_sem, hLm, hlen2, tabsD, decide_true]
            exact ⟨LeD.nil 3, LeD.refl _⟩
          · simp only [go_sem]
          repeat (first | refine st_end rfl ?_ | ((first | refine st1 fun K k => ?_ | refine st2 fun K k => ?_ | refine st3 rfl fun K k => ?_ | refine st4 fun K k => ?_); simp only [go_sem, tabsD, List.length_map]; refine k _ _ _ _ _ _ ?_; clear k K))
          refine st_cond fun A B a b => ?_; simp only [go_sem]; refine ⟨fun g => a ?_, fun g => b ?_⟩ <;> clear a b A B
          · obtain ⟨⟨n', c', r'⟩, hx⟩ := getS (l := L) (i := k) (by omega)
            have w5 : IntKind.wrap .i64 ((k : Int) + 1) = ((k + 1 : Nat) : Int) := wrapTo (by omega)
            have e5 : L.take (k + 1) = L.take k ++ [(n', c', r')] := by rw [List.take_add_one, hx]; rfl
            have e6 : (L.take (k + 1)).foldl (fun acc t => insL t acc) [] = insL (n', c', r') ((L.take k).foldl (fun acc t => insL t acc) []) := by rw [e5, List.foldl_append]; rfl
            have hO : ((L.take k).foldl (fun acc t => insL t acc) []).length = k := by rw [fold_len, List.length_take]; simp; omega
            obtain ⟨O, hOe⟩ : ∃ O, (L.take k).foldl (fun acc t => insL t acc) [] = O := ⟨_, rfl⟩
            rw [hOe] at hO e6 ⊢
            have h50 := f50_ok n' c' r' (hgood _ (List.mem_of_getElem? hx)).s
            repeat (first | refine st_end rfl ?_ | ((first | refine st1 fun K k => ?_ | refine st2 fun K k => ?_ | refine st3 rfl fun K k => ?_ | refine st4 fun K k => ?_); simp only [go_sem]; refine k _ _ _ _ _ _ ?_; clear k K))
            refine W.loopP (fun j : Nat => ⟨[(7, tabsD L), (9, tabsD O), (10, .v (.int .i64 k)), (11, .v (.int .i64 j))], [], 2, []⟩)
              (fun j => j ≤ O.length ∧ ∀ y ∈ O.take j, Op.bytesLess n' y.1 = false) (fun j => O.length - j) 0 ⟨Nat.zero_le _, by simp⟩ (Into.le ?_ ?_ (Nat.le_refl _) rfl) fun j hj => ?_
            · simp only [go_sem, tabsD]
              exact LeD.refl _
            · simp only [go_sem]
            obtain ⟨hj1, hj2⟩ := hj
            by_cases hgo : ∃ y, O[j]? = some y ∧ Op.bytesLess n' y.1 = false
            · obtain ⟨⟨ny, cy, ry⟩, hy, hless⟩ := hgo
              have g1 : (j : Int) < (O.length : Int) := by have := (List.getElem?_eq_some_iff.1 hy).1; omega
              have w6 : IntKind.wrap .i64 ((j : Int) + 1) = ((j + 1 : Nat) : Int) := wrapTo (by omega)
              have q3 : (Op.bytesLess ny n' || ny == n') = true := by rw [le_not, hless]; rfl
              refine W.code (N := 95) [3, 36, 50] hN ?_
              repeat (first | refine st_end rfl ?_ | ((first | refine st1 fun K k => ?_ | refine st2 fun K k => ?_ | refine st3 rfl fun K k => ?_ | refine st4 fun K k => ?_); simp only [go_sem, tabsD, List.length_map, g1, decide_true, hy, hx, encT_e, q3, w6]; refine k _ _ _ _ _ _ ?_; clear k K))
              refine ⟨j + 1, ⟨by omega, ?_⟩, by omega, Into.le ?_ ?_ (Nat.le_refl _) rfl⟩
              · intro y hy2
                have e7 : O.take (j + 1) = O.take j ++ [(ny, cy, ry)] := by rw [List.take_add_one, hy]; rfl
                rw [e7] at hy2
                rcases List.mem_append.1 hy2 with hy2 | hy2
                · exact hj2 y hy2
                · simp at hy2; rw [hy2]; exact hless
              · simp only [go_sem, tabsD]
              · simp only [go_sem]
            · have eI : insL (n', c', r') O = O.take j ++ (n', c', r') :: O.drop j := insL_at hj1 hj2 (fun y hy => by
                cases h : Op.bytesLess n' y.1 with
                | true => rfl
                | false => exact absurd ⟨y, hy, h⟩ hgo)
              refine W.mono (Q := fun e st => e = .exit 4 ∧ Into E st ⟨[(7, tabsD L), (9, tabsD O), (10, .v (.int .i64 k)), (11, .v (.int .i64 j))], [], 2, []⟩) ?_ ?_
              · refine W.code (N := 95) [3, 36, 50] hN ?_
                by_cases g1 : (j : Int) < (O.length : Int)
                · obtain ⟨⟨ny, cy, ry⟩, hy⟩ := getS (l := O) (i := j) (by omega)
                  have hless : Op.bytesLess n' ny = true := by
                    cases h : Op.bytesLess n' ny with
                    | true => rfl
                    | false => exact absurd ⟨_, hy, h⟩ hgo
                  have q3 : (Op.bytesLess ny n' || ny == n') = false := by rw [le_not, hless]; rfl
                  repeat (first | refine st_end rfl ?_ | ((first | refine st1 fun K k => ?_ | refine st2 fun K k => ?_ | refine st3 rfl fun K k => ?_ | refine st4 fun K k => ?_); simp only [go_sem, tabsD, List.length_map, g1, decide_true, hy, hx, encT_e, q3]; refine k _ _ _ _ _ _ ?_; clear k K))
                  simp only [go_sem]
                  refine ⟨rfl, Into.le ?_ ?_ (Nat.le_refl _) rfl⟩
                  · simp only [go_sem, tabsD]
                  · simp only [go_sem]
                · repeat (first | refine st_end rfl ?_ | ((first | refine st1 fun K k => ?_ | refine st2 fun K k => ?_ | refine st3 rfl fun K k => ?_ | refine st4 fun K k => ?_); simp only [go_sem, tabsD, List.length_map, g1, decide_false]; refine k _ _ _ _ _ _ ?_; clear k K))
                  simp only [go_sem]
                  refine ⟨rfl, Into.le ?_ ?_ (Nat.le_refl _) rfl⟩
                  · simp only [go_sem, tabsD]
                  · simp only [go_sem]
              · rintro e st ⟨rfl, hin⟩
                refine iq hin ?_
                simp only [go_sem]
                have hd : (O.drop j).length = O.length - j := by simp
                have ht : (O.take j).length = j := by simp; omega
                have c0 : (0 : Int) ≤ (j : Int) := by omega
                have c2 : (j : Int) ≤ (O.length : Int) := by omega
                have c3 : 1 + (O.length - j) ≤ maxLen := by unfold maxLen; omega
                have c4 : (1 + (O.length - j)) * 64 ≤ 140737488355328 := by omega
                have c1 : (O.length : Int) ≤ (O.length : Int) := Int.le_refl _
                have e1 : (O.map encT).take O.length = O.map encT := List.take_of_length_le (by simp)
                repeat (first | refine st_end rfl ?_ | ((first | refine st1 fun K k => ?_ | refine st2 fun K k => ?_ | refine st3 rfl fun K k => ?_ | refine st4 fun K k => ?_); simp only [go_sem, tabsD, hx, encT_e, List.length_map]; refine k _ _ _ _ _ _ ?_; clear k K))
                (first | refine st1 fun K k => ?_ | refine st3 rfl fun K k => ?_); simp only [go_sem]; refine callP (h50) ?_; refine k _ _ _ _ _ _ ?_; clear k K
                repeat (first | refine st_end rfl ?_ | ((first | refine st1 fun K k => ?_ | refine st2 fun K k => ?_ | refine st3 rfl fun K k => ?_ | refine st4 fun K k => ?_); simp only [go_sem, tabsD, List.length_map, c0, c1, c2, e1]; refine k _ _ _ _ _ _ ?_; clear k K))
                have d3 : ∀ e ∈ List.drop j (O.map encT), e.all oneD = true := by
                  intro e he; obtain ⟨q, _, rfl⟩ := List.mem_map.1 (List.mem_of_mem_drop he); rfl
                have d4 : ∀ e ∈ List.take j (O.map encT), e.all oneD = true := by
                  intro e he; obtain ⟨q, _, rfl⟩ := List.mem_map.1 (List.mem_of_mem_take he); rfl
                have d5 : (List.drop j (O.map encT)).length = O.length - j := by simp
                have d6 : (List.take j (O.map encT)).length = j := by simp; omega
                have c5 : j ≤ maxLen := by unfold maxLen; omega
                have c6 : j * 64 ≤ 140737488355328 := by omega
                have c7 : j + (1 + (O.length - j)) ≤ maxLen := by unfold maxLen; omega
                have c8 : (j + (1 + (O.length - j))) * 64 ≤ 140737488355328 := by omega
                have d7 : (O.drop j).map encT = List.drop j (O.map encT) := by rw [List.map_drop]
                have d8 : (O.take j).map encT = List.take j (O.map encT) := by rw [List.map_take]
                (first | refine st1 fun K k => ?_ | refine st3 rfl fun K k => ?_); simp only [go_sem, d5, c3, c4]
                refine ⟨d3, ?_⟩
                refine k _ _ _ _ _ _ ?_; clear k K
                repeat (first | refine st_end rfl ?_ | ((first | refine st1 fun K k => ?_ | refine st2 fun K k => ?_ | refine st3 rfl fun K k => ?_ | refine st4 fun K k => ?_); simp only [go_sem, tabsD, List.length_map, c0, c1, c2, e1, ht]; refine k _ _ _ _ _ _ ?_; clear k K))
                (first | refine st1 fun K k => ?_ | refine st3 rfl fun K k => ?_); simp only [go_sem, d6, c5, c6]
                refine ⟨d4, ?_⟩
                refine k _ _ _ _ _ _ ?_; clear k K
                repeat (first | refine st_end rfl ?_ | ((first | refine st1 fun K k => ?_ | refine st2 fun K k => ?_ | refine st3 rfl fun K k => ?_ | refine st4 fun K k => ?_); simp only [go_sem]; refine k _ _ _ _ _ _ ?_; clear k K))
                (first | refine st1 fun K k => ?_ | refine st3 rfl fun K k => ?_); simp only [go_sem, vAppendO, d5, d6, c7, c8]
                refine ⟨by omega, d3, ⟨by unfold maxLen; omega, by omega⟩, ?_⟩
                refine k _ _ _ _ _ _ ?_; clear k K
                have eM : List.take j (O.map encT) ++ [D.s n', D.sl (List.map (fun s => [D.s s]) c') 1, D.sl (List.map (fun r => [D.sl (List.map encV r) 7]) r') 1] :: List.drop j (O.map encT) = (insL (n', c', r') O).map encT := by
                  rw [eI, List.map_append, List.map_cons, d7, d8]; rfl
                have eN : j + (O.length - j + 1) = (insL (n', c', r') O).length := by rw [insL_len]; omega
                rw [eM]
                repeat (first | refine st_end rfl ?_ | ((first | refine st1 fun K k => ?_ | refine st2 fun K k => ?_ | refine st3 rfl fun K k => ?_ | refine st4 fun K k => ?_); simp only [go_sem, w5]; refine k _ _ _ _ _ _ ?_; clear k K))
                refine ⟨k + 1, by omega, by omega, (Into.frz [6] ?_).trans ((Into.ren h0 [] 2 rfl).trans (Into.le ?_ ?_ (Nat.le_refl _) rfl))⟩
                · simp only [go_sem]
                  intro e he
                  obtain ⟨q, _, rfl⟩ := List.mem_map.1 he; rfl
                · simp only [go_sem, newOf, tabsD, subL_encT, eN, List.length_map, decide_true, e6]
                · simp only [go_sem, newOf, tabsD]
          · obtain rfl : k = L.length := by omega
            rw [List.take_length, sortN_L, hL]
            refine iq Into.refl ?_
            repeat (first | refine st_end rfl ?_ | ((first | refine st1 fun K k => ?_ | refine st2 fun K k => ?_ | refine st3 rfl fun K k => ?_ | refine st4 fun K k => ?_); simp only [go_sem, tabsD]; refine k _ _ _ _ _ _ ?_; clear k K))
            refine Done.t2 ?_
            simp only [go_sem, sub_rows, tabsD]
end Go.Proofs.YtjgooecohepkoaaGreatDoor
namespace Go.Proofs.YtjgooecohepkoaaGreatDoor
open Go Go.Abs
set_option linter.unusedSimpArgs false
set_option maxHeartbeats 2000000
/-! ### TableSets -/
def names8 : List (List UInt8) := [[116], [98], [97], [120, 49], [99], [122], [100], [101]]
theorem made_right_n (n : List UInt8) (L : List Int) (h : nameR n = true) : rightT n (mCols L) (mVals L) = true := by
  have := made_right L
  unfold rightT at this ⊢
  rw [show nameR [116] = true by decide] at this
  rw [h]; exact this
theorem made_good_n (n : List UInt8) (L : List Int) (h : n.length ≤ 1000000) : GoodT (n, mCols L, mVals L) :=
  ⟨⟨h, (made_good L).hc, (made_good L).hs, (made_good L).hm⟩, made_tab_small L⟩
theorem f12_name (n : List UInt8) (L : List Int) : FnOK sys 12 [.s n, ints L] [] (.agg [.s n, strsD (mCols L), rowsV (mVals L)]) [] :=
  (f12_ok n L).leRes (LeD.agg (LeL.cons (LeD.refl _) (LeL.cons (LeD.refl _) (LeL.cons (rows_le _) LeL.nil))))
theorem n8_facts : ∀ k, k < 8 → nameR (names8.getD k []) = true ∧ (names8.getD k []).length ≤ 1000000 ∧ ∀ j, j < k → names8.getD j [] ≠ names8.getD k [] := by decide
theorem n8_at {k : Nat} (h : k < 8) : ([[.s [116]], [.s [98]], [.s [97]], [.s [120, 49]], [.s [99]], [.s [122]], [.s [100]], [.s [101]]] : List (List D))[k]? = some [.s (names8.getD k [])] := by
  rcases k with _ | _ | _ | _ | _ | _ | _ | _ | k <;> first | rfl | omega
def tK (Ls : List (List Int)) (k : Nat) : TT := (names8.getD k [], mCols (Ls.getD k []), mVals (Ls.getD k []))
def setsA (Ls : List (List Int)) : Nat → List TT
  | 0 => []
  | k + 1 => if (setT (setsA Ls k) (tK Ls k)).2 = 0 then (setT (setsA Ls k) (tK Ls k)).1 else setsA Ls k
structure SetsI (Ls : List (List Int)) (k : Nat) : Prop where
  kp : Kept (setsA Ls k)
  ln : (setsA Ls k).length = min k 6
  nm : ∀ x ∈ setsA Ls k, ∃ j, j < k ∧ x.1 = names8.getD j []
  gd : ∀ x ∈ setsA Ls k, GoodT x
theorem sets_step (Ls : List (List Int)) {k : Nat} (hk : k < 8) (h : SetsI Ls k) :
    ((setT (setsA Ls k) (tK Ls k)).2 = if k < 6 then 0 else 2) ∧ SetsI Ls (k + 1) := by
  obtain ⟨n1, n2, n3⟩ := n8_facts k hk
  have hr : rightT (tK Ls k).1 (tK Ls k).2.1 (tK Ls k).2.2 = true := made_right_n _ _ n1
  have hn : ∀ x ∈ setsA Ls k, x.1 ≠ (tK Ls k).1 := by
    intro x hx
    obtain ⟨j, hj, e⟩ := h.nm x hx
    rw [e]; exact n3 j hj
  by_cases h6 : k < 6
  · obtain ⟨a1, a2, a3⟩ := set_new h.kp hr hn (by rw [h.ln]; omega)
    have e : setsA Ls (k + 1) = insL (tK Ls k) (setsA Ls k) := by
      rw [setsA, a1]; rfl
    refine ⟨by rw [a1, if_pos h6], ?_, ?_, ?_, ?_⟩
    · rw [e]; exact a2
    · rw [e, a3, h.ln]; omega
    · rw [e]
      intro x hx
      rcases mem_insL.1 hx with rfl | hx
      · exact ⟨k, by omega, rfl⟩
      · obtain ⟨j, hj, e⟩ := h.nm x hx
        exact ⟨j, by omega, e⟩
    · rw [e]
      intro x hx
      rcases mem_insL.1 hx with rfl | hx
      · exact made_good_n _ _ n2
      · exact h.gd x hx
  · have a1 := set_full hr hn (by rw [h.ln]; omega)
    have e : setsA Ls (k + 1) = setsA Ls k := by
      rw [setsA, a1]; rfl
    refine ⟨by rw [a1, if_neg h6], ?_, ?_, ?_, ?_⟩
    · rw [e]; exact h.kp
    · rw [e, h.ln]; omega
    · rw [e]
      intro x hx
      obtain ⟨j, hj, e⟩ := h.nm x hx
      exact ⟨j, by omega, e⟩
    · rw [e]; exact h.gd
theorem sets_all (Ls : List (List Int)) : ∀ k, k ≤ 8 → SetsI Ls k
  | 0, _ => ⟨⟨List.Pairwise.nil, by simp [setsA], by simp [setsA]⟩, rfl, by simp [setsA], by simp [setsA]⟩
  | k + 1, h => (sets_step Ls (by omega) (sets_all Ls k (by omega))).2
theorem odd_len2 {cols : List (List UInt8)} {rows : List (List Val)} (q0 q1 q2 : Int) (h1 : cols.length ≤ 1000) (h2 : rows.length ≤ 1000) (h3 : ∀ r ∈ rows, r.length ≤ 1000000) :
    (oddCols cols q0).length ≤ 1000000 ∧ (oddRows cols rows q0 q1 q2).length ≤ 1000000 ∧ ∀ r ∈ oddRows cols rows q0 q1 q2, r.length ≤ 1000000 := by
  have h8 := (modN_eq 8 (by omega) (by omega) q1).2.2
  refine ⟨?_, ?_, ?_⟩
  · unfold oddCols
    split
    · simp; omega
    · split
      · simp
      · omega
  · unfold oddRows
    split
    · simp; omega
    split
    · split
      · simp; omega
      · omega
    split
    · simp
    split
    · simp; omega
    split
    · simp; omega
    split
    · split
      · rename_i r rest; simp at h2 ⊢; omega
      · simp
    · omega
  · unfold oddRows
    have hz : ∀ r, r = List.replicate cols.length zeroV → r.length ≤ 1000000 := by
      rintro r rfl
      simp; omega
    split
    · intro row hr
      rcases List.mem_append.1 hr with hr | hr
      · exact h3 row hr
      · exact hz _ (by simpa using hr)
    split
    · split
      · rename_i r hrk
        intro row hr
        rcases List.mem_append.1 hr with hr | hr
        · exact h3 row (List.mem_of_mem_take hr)
        · rcases List.mem_cons.1 hr with rfl | hr
          · rw [List.length_set]; exact h3 r (List.mem_of_getElem? hrk)
          · exact h3 row (List.mem_of_mem_drop hr)
      · exact h3
    split
    · intro row hr; simp at hr
    split
    · exact fun row hr => h3 row (List.mem_of_mem_drop hr)
    split
    · intro row hr
      rcases List.mem_append.1 hr with hr | hr
      · exact h3 row hr
      · exact hz _ (List.eq_of_mem_replicate hr)
    split
    · split
      · rename_i r rest
        intro row hr
        rcases List.mem_cons.1 hr with rfl | hr
        · have := h3 r (by simp); simp; omega
        · exact h3 row (by simp [hr])
      · intro row hr; simp at hr
    · exact h3
theorem odd_goodT (n : List UInt8) (L : List Int) (q0 q1 q2 : Int) (h : n.length ≤ 1000000) : GoodT (oddName n q0 q1, oddCols (mCols L) q0, oddRows (mCols L) (mVals L) q0 q1 q2) := by
  have hg := made_good_n n L h
  have hcl : (mCols L).length ≤ 1000 := by have := mCols_len L; have := mMany_bd L; omega
  have hrw : (mVals L).length ≤ 1000 := by have := mRows_bd L; simp [mVals, valsOf]; omega
  have hrr : ∀ r ∈ mVals L, r.length ≤ 1000000 := fun r hr => by rw [mVals_sq L r hr]; omega
  obtain ⟨o1, o2, o3⟩ := odd_len2 q0 q1 q2 hcl hrw hrr
  have g := odd_good hg.g q0 q1 q2
  exact ⟨g, Small.mk _ _ _ _ _ _ _ o1 o2 o3 g.hm⟩
theorem f8_ok (Ls : List (List Int)) (q0 q1 q2 : Int) (b : Int) (hb0 : 0 ≤ b ∧ b < 256) : FnOK sys 8 [intss Ls, .agg [.v (.int .i64 q0), .v (.int .i64 q1), .v (.int .i64 q2)], .v (.int .u8 b)] [] (.v (.bool true)) [] := by
  obtain ⟨nb, hnb⟩ : ∃ nb : Nat, b.tmod 8 = nb := ⟨(b.tmod 8).toNat, by have := Int.tmod_nonneg 8 hb0.1; omega⟩
  have hnb8 : nb < 8 := by have := Int.tmod_lt_of_pos b (show (0 : Int) < 8 by omega); omega
  obtain ⟨m1, m2, m3⟩ := n8_facts nb hnb8
  have hm := n8_at hnb8
  obtain ⟨N8, hN8⟩ : ∃ n, min Ls.length 8 = n := ⟨_, rfl⟩
  refine FnOK.intro Tryz.f8 (by kernel_rfl) rfl rfl [.tmp 6] rfl 0 rfl (Nat.le_of_ble_eq_true rfl) rfl rfl fun E hN h0 => W.bound 0 rfl fun hb => W.code (N := 134) [4, 27, 84] hN ?_
  simp only [List.length_map, maxLen] at hb
  repeat (first | refine st_end rfl ?_ | ((first | refine st1 fun K k => ?_ | refine st2 fun K k => ?_ | refine st3 rfl fun K k => ?_ | refine st4 fun K k => ?_); simp only [go_sem]; refine k _ _ _ _ _ _ ?_; clear k K))
  (first | refine st1 fun K k => ?_ | refine st3 rfl fun K k => ?_); simp only [go_sem]; refine callP (f11_ok) ?_; refine k _ _ _ _ _ _ ?_; clear k K
  repeat (first | refine st_end rfl ?_ | ((first | refine st1 fun K k => ?_ | refine st2 fun K k => ?_ | refine st3 rfl fun K k => ?_ | refine st4 fun K k => ?_); simp only [go_sem]; refine k _ _ _ _ _ _ ?_; clear k K))
  refine W.loopP (fun i : Nat => ⟨[(0, intss Ls), (2, .v (.int .u8 b)), (4, .ep [.v (.int .i64 q0), .v (.int .i64 q1), .v (.int .i64 q2)]), (7, .v (.bool true)), (8, tabsD (setsA Ls i)), (9, tabsD (setsA Ls i)), (10, .sl [[.s [116]], [.s [98]], [.s [97]], [.s [120, 49]], [.s [99]], [.s [122]], [.s [100]], [.s [101]]] 1), (11, .v (.int .i64 i))], [], 0, []⟩)
    (fun i => i ≤ N8) (fun i => N8 - i) 0 (Nat.zero_le _) (Into.le ?_ ?_ (Nat.le_refl _) rfl) fun i hi => ?_
  · simp only [go_sem, tabsD, setsA, List.map_nil]
    exact ⟨LeD.nil 3, LeD.nil 3, LeD.refl _⟩
  · simp only [go_sem]
  by_cases hi1 : (i : Int) < Ls.length ∧ (i : Int) < 8
  · obtain ⟨g1, g2⟩ := hi1
    obtain ⟨L, hL⟩ := getS (l := Ls) (i := i) (by omega)
    have w5 : IntKind.wrap .i64 ((i : Int) + 1) = ((i + 1 : Nat) : Int) := wrapTo (by omega)
    have hat := n8_at (k := i) (by omega)
    have hinv := sets_all Ls i (by omega)
    obtain ⟨s1, s2⟩ := sets_step Ls (k := i) (by omega) hinv
    obtain ⟨n1, n2, n3⟩ := n8_facts i (by omega)
    have hLd : Ls.getD i [] = L := by rw [List.getD_eq_getElem?_getD, hL]; rfl
    have hgt := made_good_n (names8.getD i []) L n2
    have h12 := f12_name (names8.getD i []) L
    have h38 := f38_ok (setsA Ls i) (names8.getD i []) (mCols L) (mVals L) hinv.gd hgt hinv.kp.le
    have h39 := f39_ok (setsA Ls i) (names8.getD i []) (mCols L) (mVals L) hinv.gd hgt hinv.kp.le
    have hA : setsA Ls (i + 1) = if (setT (setsA Ls i) (tK Ls i)).2 = 0 then (setT (setsA Ls i) (tK Ls i)).1 else setsA Ls i := rfl
    have htk : tK Ls i = (names8.getD i [], mCols L, mVals L) := by unfold tK; rw [hLd]
    rw [htk] at s1 hA
    obtain ⟨p, hp⟩ : ∃ p, setT (setsA Ls i) (names8.getD i [], mCols L, mVals L) = p := ⟨_, rfl⟩
    rw [hp] at h38 h39 s1 hA
    obtain ⟨A', e'⟩ := p
    simp only at h38 h39 s1 hA
    by_cases h6 : i < 6
    · have h6' : ¬ ((6 : Int) ≤ (i : Int)) := by omega
      rw [if_pos h6] at s1
      subst s1
      rw [if_pos rfl] at hA
      refine W.code (N := 134) [4, 27, 84] hN ?_
      repeat (first | refine st_end rfl ?_ | ((first | refine st1 fun K k => ?_ | refine st2 fun K k => ?_ | refine st3 rfl fun K k => ?_ | refine st4 fun K k => ?_); simp only [go_sem, g1, g2, decide_true, hL, hat]; refine k _ _ _ _ _ _ ?_; clear k K))
      (first | refine st1 fun K k => ?_ | refine st3 rfl fun K k => ?_); simp only [go_sem]; refine callP (h12) ?_; refine k _ _ _ _ _ _ ?_; clear k K
      repeat (first | refine st_end rfl ?_ | ((first | refine st1 fun K k => ?_ | refine st2 fun K k => ?_ | refine st3 rfl fun K k => ?_ | refine st4 fun K k => ?_); simp only [go_sem]; refine k _ _ _ _ _ _ ?_; clear k K))
      (first | refine st1 fun K k => ?_ | refine st3 rfl fun K k => ?_); simp only [go_sem]; refine callP (h38) ?_; refine k _ _ _ _ _ _ ?_; clear k K
      repeat (first | refine st_end rfl ?_ | ((first | refine st1 fun K k => ?_ | refine st2 fun K k => ?_ | refine st3 rfl fun K k => ?_ | refine st4 fun K k => ?_); simp only [go_sem]; refine k _ _ _ _ _ _ ?_; clear k K))
      (first | refine st1 fun K k => ?_ | refine st3 rfl fun K k => ?_); simp only [go_sem]; refine callP (h39) ?_; refine k _ _ _ _ _ _ ?_; clear k K
      repeat (first | refine st_end rfl ?_ | ((first | refine st1 fun K k => ?_ | refine st2 fun K k => ?_ | refine st3 rfl fun K k => ?_ | refine st4 fun K k => ?_); simp only [go_sem, bne_self_eq_false]; refine k _ _ _ _ _ _ ?_; clear k K))
      (first | refine st1 fun K k => ?_ | refine st3 rfl fun K k => ?_); simp only [go_sem]
      refine callP (f40_ok A') ?_
      refine k _ _ _ _ _ _ ?_; clear k K
      repeat (first | refine st_end rfl ?_ | ((first | refine st1 fun K k => ?_ | refine st2 fun K k => ?_ | refine st3 rfl fun K k => ?_ | refine st4 fun K k => ?_); simp only [go_sem, Bool.not_true, h6', decide_false, beq_self_eq_true, Bool.not_true, w5]; refine k _ _ _ _ _ _ ?_; clear k K))
      refine ⟨i + 1, by omega, by omega, (Into.ren h0 [] 0 rfl).trans (Into.le ?_ ?_ (Nat.le_refl _) rfl)⟩
      · simp only [go_sem, newOf, hA, tabsD, sub_rows]
      · simp only [go_sem, newOf]
    · have h6' : (6 : Int) ≤ (i : Int) := by omega
      rw [if_neg h6] at s1
      subst s1
      rw [if_neg (by decide)] at hA
      refine W.code (N := 134) [4, 27, 84] hN ?_
      repeat (first | refine st_end rfl ?_ | ((first | refine st1 fun K k => ?_ | refine st2 fun K k => ?_ | refine st3 rfl fun K k => ?_ | refine st4 fun K k => ?_); simp only [go_sem, g1, g2, decide_true, hL, hat]; refine k _ _ _ _ _ _ ?_; clear k K))
      (first | refine st1 fun K k => ?_ | refine st3 rfl fun K k => ?_); simp only [go_sem]; refine callP (h12) ?_; refine k _ _ _ _ _ _ ?_; clear k K
      repeat (first | refine st_end rfl ?_ | ((first | refine st1 fun K k => ?_ | refine st2 fun K k => ?_ | refine st3 rfl fun K k => ?_ | refine st4 fun K k => ?_); simp only [go_sem]; refine k _ _ _ _ _ _ ?_; clear k K))
      (first | refine st1 fun K k => ?_ | refine st3 rfl fun K k => ?_); simp only [go_sem]; refine callP (h38) ?_; refine k _ _ _ _ _ _ ?_; clear k K
      repeat (first | refine st_end rfl ?_ | ((first | refine st1 fun K k => ?_ | refine st2 fun K k => ?_ | refine st3 rfl fun K k => ?_ | refine st4 fun K k => ?_); simp only [go_sem]; refine k _ _ _ _ _ _ ?_; clear k K))
      (first | refine st1 fun K k => ?_ | refine st3 rfl fun K k => ?_); simp only [go_sem]; refine callP (h39) ?_; refine k _ _ _ _ _ _ ?_; clear k K
      repeat (first | refine st_end rfl ?_ | ((first | refine st1 fun K k => ?_ | refine st2 fun K k => ?_ | refine st3 rfl fun K k => ?_ | refine st4 fun K k => ?_); simp only [go_sem, bne_self_eq_false]; refine k _ _ _ _ _ _ ?_; clear k K))
      (first | refine st1 fun K k => ?_ | refine st3 rfl fun K k => ?_); simp only [go_sem]
      refine callP (f40_ok A') ?_
      refine k _ _ _ _ _ _ ?_; clear k K
      repeat (first | refine st_end rfl ?_ | ((first | refine st1 fun K k => ?_ | refine st2 fun K k => ?_ | refine st3 rfl fun K k => ?_ | refine st4 fun K k => ?_); simp only [go_sem, Bool.not_true, h6', decide_true, beq_self_eq_true, Bool.not_true, w5]; refine k _ _ _ _ _ _ ?_; clear k K))
      refine ⟨i + 1, by omega, by omega, (Into.ren h0 [] 0 rfl).trans (Into.le ?_ ?_ (Nat.le_refl _) rfl)⟩
      · simp only [go_sem, newOf, hA, tabsD, sub_rows]
      · simp only [go_sem, newOf]
  · have hie : i = N8 := by omega
    subst hie
    have hinv := sets_all Ls i (by omega)
    obtain ⟨A, hAe⟩ : ∃ A, setsA Ls i = A := ⟨_, rfl⟩
    obtain ⟨hk, hlen, _, hgd⟩ := hinv
    rw [hAe] at hk hlen hgd ⊢
    have hlen6 : A.length ≤ 6 := by omega
    refine W.mono (Q := fun e st => e = .exit 0 ∧ Into E st ⟨[(2, .v (.int .u8 b)), (4, .ep [.v (.int .i64 q0), .v (.int .i64 q1), .v (.int .i64 q2)]), (7, .v (.bool true)), (8, tabsD A), (10, .sl [[.s [116]], [.s [98]], [.s [97]], [.s [120, 49]], [.s [99]], [.s [122]], [.s [100]], [.s [101]]] 1)], [], 0, []⟩) ?_ ?_
    · refine W.code (N := 134) [4, 27, 84] hN ?_
      by_cases g1 : (i : Int) < Ls.length
      · have g2 : ¬ ((i : Int) < 8) := fun g2 => hi1 ⟨g1, g2⟩
        repeat (first | refine st_end rfl ?_ | ((first | refine st1 fun K k => ?_ | refine st2 fun K k => ?_ | refine st3 rfl fun K k => ?_ | refine st4 fun K k => ?_); simp only [go_sem, g1, g2, decide_true, decide_false]; refine k _ _ _ _ _ _ ?_; clear k K))
        simp only [go_sem]
        refine ⟨rfl, ?_⟩
        refine Into.le ?_ ?_ (Nat.le_refl _) rfl
        · simp only [go_sem, tabsD]
        · simp only [go_sem]
      · repeat (first | refine st_end rfl ?_ | ((first | refine st1 fun K k => ?_ | refine st2 fun K k => ?_ | refine st3 rfl fun K k => ?_ | refine st4 fun K k => ?_); simp only [go_sem, g1, decide_false]; refine k _ _ _ _ _ _ ?_; clear k K))
        simp only [go_sem]
        refine ⟨rfl, ?_⟩
        refine Into.le ?_ ?_ (Nat.le_refl _) rfl
        · simp only [go_sem, tabsD]
        · simp only [go_sem]
    · rintro e st ⟨rfl, hin⟩
      have hgo := odd_goodT (names8.getD nb []) [2, 3] q0 q1 q2 m2
      have h12 := f12_name (names8.getD nb []) [2, 3]
      have h14 := f14_ok (names8.getD nb []) (mCols [2, 3]) (mVals [2, 3]) q0 q1 q2 (made_tab_small _) (by rw [mCols_len]; exact (mMany_bd _).1) (mVals_sq _)
      obtain ⟨n1, hn1⟩ : ∃ n, oddName (names8.getD nb []) q0 q1 = n := ⟨_, rfl⟩
      obtain ⟨c1, hc1⟩ : ∃ n, oddCols (mCols [2, 3]) q0 = n := ⟨_, rfl⟩
      obtain ⟨w1, hw1⟩ : ∃ n, oddRows (mCols [2, 3]) (mVals [2, 3]) q0 q1 q2 = n := ⟨_, rfl⟩
      obtain ⟨c0, hc0⟩ : ∃ n, mCols [2, 3] = n := ⟨_, rfl⟩
      obtain ⟨w0, hw0⟩ : ∃ n, mVals [2, 3] = n := ⟨_, rfl⟩
      rw [hn1, hc1, hw1] at h14 hgo
      rw [hc0, hw0] at h14 h12
      have h38 := f38_ok A n1 c1 w1 hgd hgo hlen6
      have h39 := f39_ok A n1 c1 w1 hgd hgo hlen6
      obtain ⟨p, hp⟩ : ∃ p, setT A (n1, c1, w1) = p := ⟨_, rfl⟩
      rw [hp] at h38 h39
      obtain ⟨B, e'⟩ := p
      simp only at h38 h39
      refine iq hin ?_
      repeat (first | refine st_end rfl ?_ | ((first | refine st1 fun K k => ?_ | refine st2 fun K k => ?_ | refine st3 rfl fun K k => ?_ | refine st4 fun K k => ?_); simp only [go_sem, hnb, hm]; refine k _ _ _ _ _ _ ?_; clear k K))
      (first | refine st1 fun K k => ?_ | refine st3 rfl fun K k => ?_); simp only [go_sem]; refine callP (h12) ?_; refine k _ _ _ _ _ _ ?_; clear k K
      repeat (first | refine st_end rfl ?_ | ((first | refine st1 fun K k => ?_ | refine st2 fun K k => ?_ | refine st3 rfl fun K k => ?_ | refine st4 fun K k => ?_); simp only [go_sem]; refine k _ _ _ _ _ _ ?_; clear k K))
      (first | refine st1 fun K k => ?_ | refine st3 rfl fun K k => ?_); simp only [go_sem]; refine callP (h14) ?_; refine k _ _ _ _ _ _ ?_; clear k K
      repeat (first | refine st_end rfl ?_ | ((first | refine st1 fun K k => ?_ | refine st2 fun K k => ?_ | refine st3 rfl fun K k => ?_ | refine st4 fun K k => ?_); simp only [go_sem]; refine k _ _ _ _ _ _ ?_; clear k K))
      (first | refine st1 fun K k => ?_ | refine st3 rfl fun K k => ?_); simp only [go_sem]; refine callP (h38) ?_; refine k _ _ _ _ _ _ ?_; clear k K
      repeat (first | refine st_end rfl ?_ | ((first | refine st1 fun K k => ?_ | refine st2 fun K k => ?_ | refine st3 rfl fun K k => ?_ | refine st4 fun K k => ?_); simp only [go_sem]; refine k _ _ _ _ _ _ ?_; clear k K))
      (first | refine st1 fun K k => ?_ | refine st3 rfl fun K k => ?_); simp only [go_sem]; refine callP (h39) ?_; refine k _ _ _ _ _ _ ?_; clear k K
      repeat (first | refine st_end rfl ?_ | ((first | refine st1 fun K k => ?_ | refine st2 fun K k => ?_ | refine st3 rfl fun K k => ?_ | refine st4 fun K k => ?_); simp only [go_sem, bne_self_eq_false]; refine k _ _ _ _ _ _ ?_; clear k K))
      (first | refine st1 fun K k => ?_ | refine st3 rfl fun K k => ?_); simp only [go_sem]
      refine callP (f40_ok B) ?_
      refine k _ _ _ _ _ _ ?_; clear k K
      have w1 : IntKind.wrap .i64 ((A.length : Int) - 1) = (A.length : Int) - 1 := wrapTo (by omega)
      repeat (first | refine st_end rfl ?_ | ((first | refine st1 fun K k => ?_ | refine st2 fun K k => ?_ | refine st3 rfl fun K k => ?_ | refine st4 fun K k => ?_); simp only [go_sem, Bool.not_true, tabsD, List.length_map, w1]; refine k _ _ _ _ _ _ ?_; clear k K))
      refine W.loopP (fun m : Nat => ⟨[(7, .v (.bool true)), (8, tabsD A), (22, tabsD (A.drop m)), (23, .v (.int .i64 ((m : Int) - 1)))], [], 0, []⟩)
        (fun m => m ≤ A.length) (fun m => m) A.length (Nat.le_refl _) ((Into.ren h0 [] 0 rfl).trans (Into.le ?_ ?_ (Nat.le_refl _) rfl)) fun m hm2 => W.code (N := 134) [4, 27, 84] hN ?_
      · simp only [go_sem, tabsD, newOf, List.drop_length, List.map_nil, sub_rows]
        exact LeD.nil 3
      · simp only [go_sem, newOf]
      rcases m with _ | m
      · have g1 : ¬ ((0 : Int) ≤ ((0 : Nat) : Int) - 1) := by omega
        repeat (first | refine st_end rfl ?_ | ((first | refine st1 fun K k => ?_ | refine st2 fun K k => ?_ | refine st3 rfl fun K k => ?_ | refine st4 fun K k => ?_); simp only [go_sem, g1, decide_false]; refine k _ _ _ _ _ _ ?_; clear k K))
        refine iq Into.refl ?_
        repeat (first | refine st_end rfl ?_ | ((first | refine st1 fun K k => ?_ | refine st2 fun K k => ?_ | refine st3 rfl fun K k => ?_ | refine st4 fun K k => ?_); simp only [go_sem, List.drop_zero]; refine k _ _ _ _ _ _ ?_; clear k K))
        (first | refine st1 fun K k => ?_ | refine st3 rfl fun K k => ?_); simp only [go_sem]
        refine callP (f40_ok A) ?_
        refine k _ _ _ _ _ _ ?_; clear k K
        repeat (first | refine st_end rfl ?_ | ((first | refine st1 fun K k => ?_ | refine st2 fun K k => ?_ | refine st3 rfl fun K k => ?_ | refine st4 fun K k => ?_); simp only [go_sem]; refine k _ _ _ _ _ _ ?_; clear k K))
        refine Done.t1 ?_
        simp only [go_sem]
      · have em : ((m + 1 : Nat) : Int) - 1 = (m : Int) := by omega
        obtain ⟨⟨xn, xc, xr⟩, hx⟩ := getS (l := A) (i := m) (by omega)
        have hback := set_back hk hx
        have h38 := f38_ok (A.drop (m + 1)) xn xc xr (fun x hx => hgd x (List.mem_of_mem_drop hx)) (hgd _ (List.mem_of_getElem? hx)) (by simp; omega)
        rw [hback] at h38
        simp only at h38
        have g1 : (0 : Int) ≤ (m : Int) := by omega
        have w2 : IntKind.wrap .i64 ((m : Int) - 1) = (m : Int) - 1 := wrapTo (by omega)
        rw [em]
        repeat (first | refine st_end rfl ?_ | ((first | refine st1 fun K k => ?_ | refine st2 fun K k => ?_ | refine st3 rfl fun K k => ?_ | refine st4 fun K k => ?_); simp only [go_sem, g1, decide_true, tabsD, hx, encT_e]; refine k _ _ _ _ _ _ ?_; clear k K))
        (first | refine st1 fun K k => ?_ | refine st3 rfl fun K k => ?_); simp only [go_sem]; refine callP (h38) ?_; refine k _ _ _ _ _ _ ?_; clear k K
        repeat (first | refine st_end rfl ?_ | ((first | refine st1 fun K k => ?_ | refine st2 fun K k => ?_ | refine st3 rfl fun K k => ?_ | refine st4 fun K k => ?_); simp only [go_sem, bne_self_eq_false, w2]; refine k _ _ _ _ _ _ ?_; clear k K))
        refine ⟨m, by omega, by omega, (Into.ren h0 [] 0 rfl).trans (Into.le ?_ ?_ (Nat.le_refl _) rfl)⟩
        · simp only [go_sem, newOf, tabsD, sub_rows]
        · simp only [go_sem, newOf]
end Go.Proofs.YtjgooecohepkoaaGreatDoor
