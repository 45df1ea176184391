/- Contracts of the functions that the statement reaches. -/
import Derived.Test.YtjgooecohepkoaaGreatDoorSAN
set_option linter.unusedVariables false
set_option linter.unusedSimpArgs false
namespace Go.Proofs.YtjgooecohepkoaaGreatDoor
open Go Go.Abs
set_option linter.unusedSimpArgs false
set_option maxHeartbeats 2000000
/-! ### Sorting tables by their names -/
abbrev TT := List UInt8 × List (List UInt8) × List (List Val)
def encT (t : TT) : List D := [.s t.1, strsD t.2.1, rowsV t.2.2]
/-- Into a list held the other way round, behind all that are greater. -/
def insR (t : TT) : List TT → List TT
  | [] => [t]
  | x :: r => if Op.bytesLess t.1 x.1 then x :: insR t r else t :: x :: r
def sortN (l : List TT) : List TT := l.foldl (fun acc t => (insR t acc.reverse).reverse) []
theorem insR_len (t : TT) : ∀ l, (insR t l).length = l.length + 1
  | [] => rfl
  | x :: r => by
    unfold insR
    split
    · simp [insR_len t r]
    · simp
theorem sortN_snoc (l : List TT) (t : TT) : sortN (l ++ [t]) = (insR t (sortN l).reverse).reverse := by
  simp [sortN, List.foldl_append]
theorem sortN_len (l : List TT) : (sortN l).length = l.length := by
  have : ∀ (l acc : List TT), (l.foldl (fun acc t => (insR t acc.reverse).reverse) acc).length = acc.length + l.length := by
    intro l
    induction l with
    | nil => intro acc; simp
    | cons t r ih => intro acc; rw [List.foldl_cons, ih]; simp [insR_len]; omega
  simpa [sortN] using this l []
/-- While all behind place j are greater, the rest of the work is before it. -/
theorem ins_step (t : TT) : ∀ (p : List TT) (q : List TT), (∀ x ∈ q, Op.bytesLess t.1 x.1 = true) → (insR t (q ++ p)) = q ++ insR t p
  | p, [], _ => rfl
  | p, x :: r, h => by
    have hx := h x (by simp)
    simp only [List.cons_append, insR, hx, if_true]
    rw [ins_step t p r fun y hy => h y (by simp [hy])]
theorem ins_at {t : TT} {p : List TT} {j : Nat} (h : ∀ x ∈ p.drop j, Op.bytesLess t.1 x.1 = true) (h2 : j = 0 ∨ ∃ x, p[j - 1]? = some x ∧ 0 < j ∧ Op.bytesLess t.1 x.1 = false) : (insR t p.reverse).reverse = p.take j ++ t :: p.drop j := by
  have e : p.reverse = (p.drop j).reverse ++ (p.take j).reverse := by rw [← List.reverse_append, List.take_append_drop]
  rw [e, ins_step t _ _ fun x hx => h x (by simpa using hx)]
  have e2 : insR t (p.take j).reverse = t :: (p.take j).reverse := by
    rcases h2 with rfl | ⟨x, hx, hj, hl⟩
    · simp [insR]
    · have e3 : p.take j = p.take (j - 1) ++ [x] := by
        have : j = j - 1 + 1 := by omega
        conv => lhs; rw [this]
        rw [List.take_add_one, hx]; rfl
      rw [e3]
      simp [insR, hl]
  rw [e2]
  simp
theorem subL_encT (θ : Nat → Option Nat) (t : TT) : subL θ (encT t) = encT t := rfl
theorem sub_rows (θ : Nat → Option Nat) (l : List TT) : (l.map encT).map (subL θ) = l.map encT := by
  rw [List.map_map]; rfl
theorem encT_len (t : TT) : (encT t).length = 3 := rfl
/-- The rows while t is on its way down. -/
def arrT (p : List TT) (t : TT) (rest : List TT) (j : Nat) : List (List D) := (p.take j ++ t :: p.drop j ++ rest).map encT
theorem arrT_at {p : List TT} {t : TT} {rest : List TT} {j : Nat} (h : j ≤ p.length) : (arrT p t rest j)[j]? = some (encT t) := by
  unfold arrT
  rw [List.getElem?_map, List.append_assoc, List.getElem?_append_right (by simp; omega)]
  have : j - (p.take j).length = 0 := by simp; omega
  rw [this]; rfl
theorem arrT_prev {p : List TT} {t x : TT} {rest : List TT} {j : Nat} (h : j ≤ p.length) (h0 : 0 < j) (hx : p[j - 1]? = some x) : (arrT p t rest j)[j - 1]? = some (encT x) := by
  unfold arrT
  rw [List.getElem?_map, List.append_assoc, List.getElem?_append_left (by simp; omega), List.getElem?_take, if_pos (by omega), hx]; rfl
theorem arrT_len (p : List TT) (t : TT) (rest : List TT) (j : Nat) : (arrT p t rest j).length = p.length + 1 + rest.length := by
  have := congrArg List.length (List.take_append_drop j p)
  simp only [List.length_append] at this
  simp only [arrT, List.length_map, List.length_append, List.length_cons]
  omega
theorem arrT_swap {p : List TT} {t x : TT} {rest : List TT} {j : Nat} (h : j ≤ p.length) (h0 : 0 < j) (hx : p[j - 1]? = some x) : ((arrT p t rest j).set j (encT x)).set (j - 1) (encT t) = arrT p t rest (j - 1) := by
  obtain ⟨n, rfl⟩ : ∃ n, j = n + 1 := ⟨j - 1, by omega⟩
  simp only [Nat.add_sub_cancel] at hx ⊢
  have e1 : p.take (n + 1) = p.take n ++ [x] := by rw [List.take_add_one, hx]; rfl
  have e2 : p.drop n = x :: p.drop (n + 1) := drop_at hx
  have hn : (p.take n).length = n := by rw [List.length_take]; omega
  unfold arrT
  rw [e1, e2]
  obtain ⟨a, ha⟩ : ∃ a, p.take n = a := ⟨_, rfl⟩
  rw [ha] at hn ⊢
  simp only [List.map_append, List.map_cons, List.map_nil, List.append_assoc, List.cons_append, List.nil_append]
  rw [List.set_append_right _ _ (by simp; omega), List.set_append_right _ _ (by simp; omega)]
  have q1 : n + 1 - (a.map encT).length = 1 := by simp; omega
  have q2 : n - (a.map encT).length = 0 := by simp; omega
  rw [q1, q2]
  rfl
theorem encT_one (t : TT) : (encT t).all oneD = true := rfl
theorem encT_drop (t : TT) : (encT t).drop 3 = [] := rfl
theorem encT_take (t : TT) : (encT t).take 3 = encT t := rfl
theorem f85_T (t x : TT) : FnOK sys 85 [.agg (encT t), .agg (encT x)] [] (.v (.int .i64 (cmpS t.1 x.1))) [] := f85_ok _ _ _ _ _ _
theorem cmpS_lt {a b : List UInt8} (h : Op.bytesLess a b = true) : cmpS a b < 0 := by simp [cmpS, h]
theorem cmpS_ge {a b : List UInt8} (h : Op.bytesLess a b = false) : ¬ cmpS a b < 0 := by
  unfold cmpS; rw [h]; split <;> simp_all
  split <;> omega
theorem f181_ok (l : List TT) (hl : l.length ≤ 1000) : FnOK sys 181 [.own 0 l.length, .v (.int .i64 0), .v (.int .i64 l.length), .v (.func (.func 85) #[] #[])] [(0, .row 28 3 (l.map encT))] (.tup []) [(0, .row 28 3 ((sortN l).map encT))] := by
  refine FnOK.intro Tryz.f181 (by kernel_rfl) rfl rfl [] rfl 1 rfl (Nat.le_of_ble_eq_true rfl) ?_ ?_ fun E hN h0 => W.code (N := 53) [] hN ?_
  · rfl
  · simp only [mapS, List.map_cons, List.map_nil, subO, sub_rows]
  repeat (first | refine st_end rfl ?_ | ((first | refine st1 fun K k => ?_ | refine st2 fun K k => ?_ | refine st3 rfl fun K k => ?_ | refine st4 fun K k => ?_); simp only [go_sem]; refine k _ _ _ _ _ _ ?_; clear k K))
  refine W.loopP (fun i : Nat => ⟨[(0, .own 0 l.length), (1, .v (.int .i64 0)), (2, .v (.int .i64 l.length)), (3, .v (.func (.func 85) #[] #[])), (8, .v (.int .i64 i))],
      [(0, .row 28 3 ((sortN (l.take i) ++ l.drop i).map encT))], 1, []⟩)
    (fun i => 1 ≤ i ∧ i ≤ max l.length 1) (fun i => l.length - i) 1 ⟨Nat.le_refl _, by omega⟩ (Into.le ?_ ?_ (Nat.le_refl _) rfl) fun i hi => W.code (N := 53) [] hN ?_
  · simp only [go_sem]
    exact LeD.refl _
  · have e : sortN (l.take 1) ++ l.drop 1 = l := by
      cases l with
      | nil => rfl
      | cons t r => simp [sortN, insR]
    simp only [go_sem, e]
  obtain ⟨hi1, hi2⟩ := hi
  repeat (first | refine st_end rfl ?_ | ((first | refine st1 fun K k => ?_ | refine st2 fun K k => ?_ | refine st3 rfl fun K k => ?_ | refine st4 fun K k => ?_); simp only [go_sem]; refine k _ _ _ _ _ _ ?_; clear k K))
  refine st_cond fun A B a b => ?_; simp only [go_sem]; refine ⟨fun g => a ?_, fun g => b ?_⟩ <;> clear a b A B
  · obtain ⟨t, ht⟩ := getS (l := l) (i := i) (by omega)
    have w5 : IntKind.wrap .i64 ((i : Int) + 1) = ((i + 1 : Nat) : Int) := wrapTo (by omega)
    have e5 : l.take (i + 1) = l.take i ++ [t] := by rw [List.take_add_one, ht]; rfl
    have e6 : l.drop i = t :: l.drop (i + 1) := drop_at ht
    obtain ⟨p, hp⟩ : ∃ p, sortN (l.take i) = p := ⟨_, rfl⟩
    obtain ⟨rest, hrest⟩ : ∃ r, l.drop (i + 1) = r := ⟨_, rfl⟩
    have hpl : p.length = i := by rw [← hp, sortN_len, List.length_take]; omega
    have e7 : sortN (l.take (i + 1)) = (insR t p.reverse).reverse := by rw [e5, sortN_snoc, hp]
    rw [hp, e6, hrest]
    repeat (first | refine st_end rfl ?_ | ((first | refine st1 fun K k => ?_ | refine st2 fun K k => ?_ | refine st3 rfl fun K k => ?_ | refine st4 fun K k => ?_); simp only [go_sem]; refine k _ _ _ _ _ _ ?_; clear k K))
    refine W.loopP (fun j : Nat => ⟨[(0, .own 0 l.length), (1, .v (.int .i64 0)), (2, .v (.int .i64 l.length)), (3, .v (.func (.func 85) #[] #[])), (8, .v (.int .i64 i)), (9, .v (.int .i64 j))],
        [(0, .row 28 3 (arrT p t rest j))], 1, []⟩)
      (fun j => j ≤ i ∧ ∀ x ∈ p.drop j, Op.bytesLess t.1 x.1 = true) (fun j => j) i ⟨Nat.le_refl _, by simp [← hpl]⟩ (Into.le ?_ ?_ (Nat.le_refl _) rfl) fun j hj => ?_
    · simp only [go_sem]
    · have e : arrT p t rest i = (p ++ t :: rest).map encT := by unfold arrT; rw [← hpl]; simp
      rw [e]
      try simp only [go_sem]
    obtain ⟨hj1, hj2⟩ := hj
    have hjp : j ≤ p.length := by omega
    by_cases hc : 0 < j ∧ ∃ x, p[j - 1]? = some x ∧ Op.bytesLess t.1 x.1 = true
    · obtain ⟨hj0, x, hx, hq⟩ := hc
      have g1 : (0 : Int) < j := by omega
      have v1 : IntKind.wrap .i64 ((j : Int) - 1) = ((j - 1 : Nat) : Int) := wrapTo (by omega)
      have a1 := arrT_at (t := t) (rest := rest) hjp
      have a2 := arrT_prev (t := t) (rest := rest) hjp hj0 hx
      have a3 := arrT_swap (t := t) (rest := rest) hjp hj0 hx
      have g2 : (j : Int) < l.length := by omega
      have g3 : ((j - 1 : Nat) : Int) < l.length := by omega
      have c1 := cmpS_lt hq
      have a4 : ((arrT p t rest j).set j (encT x))[j - 1]? = some (encT x) := by rw [List.getElem?_set_ne (by omega)]; exact a2
      refine W.code (N := 53) [] hN ?_
      repeat (first | refine st_end rfl ?_ | ((first | refine st1 fun K k => ?_ | refine st2 fun K k => ?_ | refine st3 rfl fun K k => ?_ | refine st4 fun K k => ?_); simp only [go_sem, g1, g2, g3, decide_true, v1, a1, a2, encT_len, encT_take]; refine k _ _ _ _ _ _ ?_; clear k K))
      (first | refine st1 fun K k => ?_ | refine st3 rfl fun K k => ?_); simp only [go_sem, g2, g3, a1, a2, encT_len, encT_take, v1]
      refine callP (f85_T t x) ?_
      refine k _ _ _ _ _ _ ?_; clear k K
      repeat (first | refine st_end rfl ?_ | ((first | refine st1 fun K k => ?_ | refine st2 fun K k => ?_ | refine st3 rfl fun K k => ?_ | refine st4 fun K k => ?_); simp only [go_sem, c1, decide_true, g2, g3, v1, a1, a2, a4, encT_len, encT_take, encT_one, encT_drop, List.append_nil, List.length_set, arrT_len]; refine k _ _ _ _ _ _ ?_; clear k K))
      refine ⟨j - 1, ⟨by omega, ?_⟩, by omega, Into.le ?_ ?_ (Nat.le_refl _) rfl⟩
      · intro y hy
        have e2 : p.drop (j - 1) = x :: p.drop j := by
          have := drop_at hx
          rwa [show j - 1 + 1 = j by omega] at this
        rw [e2] at hy
        rcases List.mem_cons.1 hy with rfl | hy
        · exact hq
        · exact hj2 y hy
      · simp only [go_sem]
      · simp only [go_sem, a3]
    · refine W.mono (Q := fun e st => e = .exit 2 ∧ Into E st ⟨[(0, .own 0 l.length), (1, .v (.int .i64 0)), (2, .v (.int .i64 l.length)), (3, .v (.func (.func 85) #[] #[])), (8, .v (.int .i64 i))], [(0, .row 28 3 (arrT p t rest j))], 1, []⟩) ?_ ?_
      · refine W.code (N := 53) [] hN ?_
        by_cases hj0 : j = 0
        · have g0 : ¬ ((0 : Int) < (j : Int)) := by omega
          repeat (first | refine st_end rfl ?_ | ((first | refine st1 fun K k => ?_ | refine st2 fun K k => ?_ | refine st3 rfl fun K k => ?_ | refine st4 fun K k => ?_); simp only [go_sem, g0, decide_false]; refine k _ _ _ _ _ _ ?_; clear k K))
          simp only [go_sem]
          refine ⟨rfl, Into.le ?_ ?_ (Nat.le_refl _) rfl⟩
          · simp only [go_sem]
          · simp only [go_sem]
        · obtain ⟨x, hx⟩ := getS (l := p) (i := j - 1) (by omega)
          have hq : Op.bytesLess t.1 x.1 = false := by
            cases h : Op.bytesLess t.1 x.1 with
            | false => rfl
            | true => exact absurd ⟨by omega, x, hx, h⟩ hc
          have g1 : (0 : Int) < j := by omega
          have v1 : IntKind.wrap .i64 ((j : Int) - 1) = ((j - 1 : Nat) : Int) := wrapTo (by omega)
          have a1 := arrT_at (t := t) (rest := rest) hjp
          have a2 := arrT_prev (t := t) (rest := rest) hjp (by omega) hx
          have g2 : (j : Int) < l.length := by omega
          have g3 : ((j - 1 : Nat) : Int) < l.length := by omega
          have c1 := cmpS_ge hq
          repeat (first | refine st_end rfl ?_ | ((first | refine st1 fun K k => ?_ | refine st2 fun K k => ?_ | refine st3 rfl fun K k => ?_ | refine st4 fun K k => ?_); simp only [go_sem, g1, g2, g3, decide_true, v1, a1, a2, encT_len, encT_take]; refine k _ _ _ _ _ _ ?_; clear k K))
          (first | refine st1 fun K k => ?_ | refine st3 rfl fun K k => ?_); simp only [go_sem, g2, g3, a1, a2, encT_len, encT_take, v1]
          refine callP (f85_T t x) ?_
          refine k _ _ _ _ _ _ ?_; clear k K
          repeat (first | refine st_end rfl ?_ | ((first | refine st1 fun K k => ?_ | refine st2 fun K k => ?_ | refine st3 rfl fun K k => ?_ | refine st4 fun K k => ?_); simp only [go_sem, c1, decide_false]; refine k _ _ _ _ _ _ ?_; clear k K))
          simp only [go_sem]
          refine ⟨rfl, Into.le ?_ ?_ (Nat.le_refl _) rfl⟩
          · simp only [go_sem]
          · simp only [go_sem]
      · rintro e st ⟨rfl, hin⟩
        have e8 : (insR t p.reverse).reverse = p.take j ++ t :: p.drop j := by
          refine ins_at hj2 ?_
          by_cases hj0 : j = 0
          · exact .inl hj0
          · obtain ⟨x, hx⟩ := getS (l := p) (i := j - 1) (by omega)
            refine .inr ⟨x, hx, by omega, ?_⟩
            cases h : Op.bytesLess t.1 x.1 with
            | false => rfl
            | true => exact absurd ⟨by omega, x, hx, h⟩ hc
        have e9 : arrT p t rest j = (sortN (l.take (i + 1)) ++ l.drop (i + 1)).map encT := by
          rw [e7, e8, hrest]; rfl
        rw [e9] at hin
        refine iq hin ?_
        simp only [go_sem]
        repeat (first | refine st_end rfl ?_ | ((first | refine st1 fun K k => ?_ | refine st2 fun K k => ?_ | refine st3 rfl fun K k => ?_ | refine st4 fun K k => ?_); simp only [go_sem, w5]; refine k _ _ _ _ _ _ ?_; clear k K))
        refine ⟨i + 1, ⟨by omega, by omega⟩, by omega, Into.le ?_ ?_ (Nat.le_refl _) rfl⟩
        · simp only [go_sem]
        · simp only [go_sem]
  · have e : sortN (l.take i) ++ l.drop i = sortN l := by
      rw [List.take_of_length_le (by omega), List.drop_of_length_le (by omega), List.append_nil]
    rw [e]
    refine iq Into.refl ?_
    repeat (first | refine st_end rfl ?_ | ((first | refine st1 fun K k => ?_ | refine st2 fun K k => ?_ | refine st3 rfl fun K k => ?_ | refine st4 fun K k => ?_); simp only [go_sem]; refine k _ _ _ _ _ _ ?_; clear k K))
    refine ⟨.inl rfl, _, Into.refl, rfl, [(0, 0)], 1, rfl, ?_, ?_, rfl⟩
    · simp only [go_sem]
    · simp only [go_sem, subS, subO, sub_rows]
      rw [← List.map_append, e]
end Go.Proofs.YtjgooecohepkoaaGreatDoor
namespace Go.Proofs.YtjgooecohepkoaaGreatDoor
open Go Go.Abs
set_option linter.unusedSimpArgs false
set_option maxHeartbeats 2000000
theorem f126_ok (l : List TT) (hl : l.length < 20) : FnOK sys 126 [.own 0 l.length, .v (.int .i64 l.length), .v (.func (.func 85) #[] #[])] [(0, .row 28 3 (l.map encT))] (.tup []) [(0, .row 28 3 ((sortN l).map encT))] := by
  have h181 := f181_ok l (by omega)
  refine FnOK.intro Tryz.f126 (by kernel_rfl) rfl rfl [] rfl 1 rfl (Nat.le_of_ble_eq_true rfl) rfl (by simp only [mapS, List.map_cons, List.map_nil, subO, sub_rows]) fun E hN h0 => W.code (N := 63) [] hN ?_
  have g1 : ¬ ((20 : Int) ≤ l.length) := by omega
  have g2 : ¬ ((20 : Int) < l.length) := by omega
  repeat (first | refine st_end rfl ?_ | ((first | refine st1 fun K k => ?_ | refine st2 fun K k => ?_ | refine st3 rfl fun K k => ?_ | refine st4 fun K k => ?_); simp only [go_sem]; refine k _ _ _ _ _ _ ?_; clear k K))
  refine W.loopP (fun _ : Nat => ⟨[(0, .own 0 l.length), (1, .v (.int .i64 l.length)), (2, .v (.func (.func 85) #[] #[])), (6, .v (.int .i64 20)), (7, .v (.int .i64 0)), (8, .v (.int .i64 20))], [(0, .row 28 3 (l.map encT))], 1, []⟩)
    (fun _ => True) (fun _ => 0) 0 trivial (Into.le ?_ ?_ (Nat.le_refl _) rfl) fun i _ => W.code (N := 63) [] hN ?_
  · simp only [go_sem]
  · simp only [go_sem]
  repeat (first | refine st_end rfl ?_ | ((first | refine st1 fun K k => ?_ | refine st2 fun K k => ?_ | refine st3 rfl fun K k => ?_ | refine st4 fun K k => ?_); simp only [go_sem, g1, decide_false]; refine k _ _ _ _ _ _ ?_; clear k K))
  refine iq Into.refl ?_
  simp only [go_sem]
  repeat (first | refine st_end rfl ?_ | ((first | refine st1 fun K k => ?_ | refine st2 fun K k => ?_ | refine st3 rfl fun K k => ?_ | refine st4 fun K k => ?_); simp only [go_sem]; refine k _ _ _ _ _ _ ?_; clear k K))
  (first | refine st1 fun K k => ?_ | refine st3 rfl fun K k => ?_); simp only [go_sem]
  refine callT h181 1 (by simp only [go_sem]) (by omega) (by simp only [go_sem]) ?_
  simp only [go_sem]
  refine k _ _ _ _ _ _ ?_; clear k K
  repeat (first | refine st_end rfl ?_ | ((first | refine st1 fun K k => ?_ | refine st2 fun K k => ?_ | refine st3 rfl fun K k => ?_ | refine st4 fun K k => ?_); simp only [go_sem]; refine k _ _ _ _ _ _ ?_; clear k K))
  refine W.loopP (fun _ : Nat => ⟨[(0, .own 0 l.length), (1, .v (.int .i64 l.length)), (2, .v (.func (.func 85) #[] #[])), (6, .v (.int .i64 20))], [(0, .row 28 3 ((sortN l).map encT))], 1, []⟩)
    (fun _ => True) (fun _ => 0) 0 trivial (Into.le ?_ ?_ (Nat.le_refl _) rfl) fun i _ => W.code (N := 63) [] hN ?_
  · simp only [go_sem]
  · simp only [go_sem]
  repeat (first | refine st_end rfl ?_ | ((first | refine st1 fun K k => ?_ | refine st2 fun K k => ?_ | refine st3 rfl fun K k => ?_ | refine st4 fun K k => ?_); simp only [go_sem, g2, decide_false]; refine k _ _ _ _ _ _ ?_; clear k K))
  refine iq Into.refl ?_
  simp only [go_sem]
  refine ⟨.inl rfl, _, Into.refl, rfl, [(0, 0)], 1, rfl, ?_, ?_, rfl⟩
  · simp only [go_sem]
  · simp only [go_sem, subS, subO, sub_rows]
theorem f84_ok (l : List TT) (hl : l.length < 20) : FnOK sys 84 [.own 0 l.length, .v (.func (.func 85) #[] #[])] [(0, .row 28 3 (l.map encT))] (.tup []) [(0, .row 28 3 ((sortN l).map encT))] := by
  have h126 := f126_ok l hl
  refine FnOK.intro Tryz.f84 (by kernel_rfl) rfl rfl [] rfl 1 rfl (Nat.le_of_ble_eq_true rfl) rfl (by simp only [mapS, List.map_cons, List.map_nil, subO, sub_rows]) fun E hN h0 => W.code (N := 9) [] hN ?_
  repeat (first | refine st_end rfl ?_ | ((first | refine st1 fun K k => ?_ | refine st2 fun K k => ?_ | refine st3 rfl fun K k => ?_ | refine st4 fun K k => ?_); simp only [go_sem, List.length_map]; refine k _ _ _ _ _ _ ?_; clear k K))
  (first | refine st1 fun K k => ?_ | refine st3 rfl fun K k => ?_); simp only [go_sem, List.length_map]
  refine callT h126 1 (by simp only [go_sem]) (by omega) (by simp only [go_sem]) ?_
  simp only [go_sem]
  refine k _ _ _ _ _ _ ?_; clear k K
  repeat (first | refine st_end rfl ?_ | ((first | refine st1 fun K k => ?_ | refine st2 fun K k => ?_ | refine st3 rfl fun K k => ?_ | refine st4 fun K k => ?_); simp only [go_sem]; refine k _ _ _ _ _ _ ?_; clear k K))
  refine ⟨.inl rfl, _, Into.refl, rfl, [(0, 0)], 1, rfl, ?_, ?_, rfl⟩
  · simp only [go_sem]
  · simp only [go_sem, subS, subO, sub_rows]
end Go.Proofs.YtjgooecohepkoaaGreatDoor
namespace Go.Proofs.YtjgooecohepkoaaGreatDoor
open Go Go.Abs
set_option linter.unusedSimpArgs false
set_option maxHeartbeats 2000000
/-! ### Lists of tables, plain -/
theorem bLess_lt : ∀ (x y : List UInt8), Op.bytesLess x y = decide (x < y)
  | [], [] => by simp [Op.bytesLess]
  | _ :: _, [] => by simp [Op.bytesLess]
  | [], _ :: _ => by simp [Op.bytesLess]
  | a :: x, b :: y => by
    rw [Op.bytesLess, bLess_lt x y]
    simp only [List.cons_lt_cons_iff]
    by_cases h1 : a < b <;> by_cases h2 : a = b <;> by_cases h3 : x < y <;> simp [h1, h2, h3]
/-- The names do not go down. -/
def UpN (l : List TT) : Prop := l.Pairwise fun a b => Op.bytesLess b.1 a.1 = false
/-- Ahead of the first that is greater. -/
def insL (t : TT) (l : List TT) : List TT := l.takeWhile (fun x => !Op.bytesLess t.1 x.1) ++ t :: l.dropWhile (fun x => !Op.bytesLess t.1 x.1)
theorem less_trans {a b c : List UInt8} (h1 : Op.bytesLess a b = true) (h2 : Op.bytesLess c b = false) : Op.bytesLess a c = true := by
  rw [bLess_lt] at *
  simp only [decide_eq_true_eq, decide_eq_false_iff_not, List.not_lt] at *
  by_cases e : b = c
  · rw [← e]; exact h1
  · rcases Classical.em (b < c) with h | h
    · exact List.lt_trans h1 h
    · exact absurd (List.le_antisymm h2 (List.not_lt.1 h)) e
theorem drop_tw {α : Type} (p : α → Bool) (l : List α) : l.drop (l.takeWhile p).length = l.dropWhile p := by
  induction l with
  | nil => rfl
  | cons a r ih =>
    by_cases h : p a
    · simp [List.takeWhile_cons, List.dropWhile_cons, h, ih]
    · simp [List.takeWhile_cons, List.dropWhile_cons, h]
theorem take_tw {α : Type} (p : α → Bool) (l : List α) : l.take (l.takeWhile p).length = l.takeWhile p := by
  induction l with
  | nil => rfl
  | cons a r ih =>
    by_cases h : p a
    · simp [List.takeWhile_cons, h, ih]
    · simp [List.takeWhile_cons, h]
theorem tw_imp {α : Type} {p : α → Bool} {x : α} : ∀ {l : List α}, x ∈ l.takeWhile p → p x = true
  | [], h => by simp at h
  | a :: r, h => by
    rw [List.takeWhile_cons] at h
    split at h
    · rcases List.mem_cons.1 h with rfl | h
      · assumption
      · exact tw_imp h
    · simp at h
theorem tw_all {α : Type} {p : α → Bool} : ∀ {l : List α}, (∀ x ∈ l, p x = true) → l.takeWhile p = l ∧ l.dropWhile p = []
  | [], _ => ⟨rfl, rfl⟩
  | a :: r, h => by
    have ha := h a (by simp)
    obtain ⟨h1, h2⟩ := tw_all (l := r) fun x hx => h x (by simp [hx])
    rw [List.takeWhile_cons, List.dropWhile_cons, if_pos ha, if_pos ha, h1]
    exact ⟨rfl, h2⟩
theorem up_drop {t : TT} : ∀ {l : List TT}, UpN l → ∀ x ∈ l.dropWhile (fun x => !Op.bytesLess t.1 x.1), Op.bytesLess t.1 x.1 = true
  | [], _ => by simp
  | y :: r, h => by
    have h' := List.pairwise_cons.1 h
    intro x hx
    rw [List.dropWhile_cons] at hx
    split at hx
    · exact up_drop h'.2 x hx
    · rename_i hy
      have hy' : Op.bytesLess t.1 y.1 = true := by simpa using hy
      rcases List.mem_cons.1 hx with rfl | hx
      · exact hy'
      · exact less_trans hy' (h'.1 x hx)
theorem insL_insR {t : TT} {l : List TT} (h : UpN l) : insL t l = (insR t l.reverse).reverse := by
  have e := ins_at (t := t) (p := l) (j := (l.takeWhile (fun x => !Op.bytesLess t.1 x.1)).length) (by rw [drop_tw]; exact up_drop h) ?_
  · rw [e, drop_tw, take_tw]; rfl
  · by_cases h0 : (l.takeWhile (fun x => !Op.bytesLess t.1 x.1)).length = 0
    · exact .inl h0
    · obtain ⟨x, hx⟩ := getS (l := l.takeWhile (fun x => !Op.bytesLess t.1 x.1)) (i := (l.takeWhile (fun x => !Op.bytesLess t.1 x.1)).length - 1) (by omega)
      have hm := tw_imp (List.mem_of_getElem? hx)
      have hx' : l[(l.takeWhile (fun x => !Op.bytesLess t.1 x.1)).length - 1]? = some x := by
        have hlt : (l.takeWhile (fun x => !Op.bytesLess t.1 x.1)).length - 1 < (l.takeWhile (fun x => !Op.bytesLess t.1 x.1)).length := by omega
        have := congrArg (fun q => q[(l.takeWhile (fun x => !Op.bytesLess t.1 x.1)).length - 1]?) (take_tw (fun x : TT => !Op.bytesLess t.1 x.1) l)
        simp only [List.getElem?_take, if_pos hlt] at this
        rw [this]; exact hx
      exact .inr ⟨x, hx', by omega, by simpa using hm⟩
theorem not_less {a b : List UInt8} (h : Op.bytesLess a b = true) : Op.bytesLess b a = false := by
  rw [bLess_lt] at *
  simp only [decide_eq_true_eq, decide_eq_false_iff_not] at *
  exact List.lt_asymm h
theorem less_irr (a : List UInt8) : Op.bytesLess a a = false := by
  rw [bLess_lt]; simp [List.lt_irrefl]
theorem up_insL {t : TT} : ∀ {l : List TT}, UpN l → UpN (insL t l)
  | [], _ => by simp [insL, UpN]
  | y :: r, h => by
    have h' := List.pairwise_cons.1 h
    unfold insL
    rw [List.takeWhile_cons, List.dropWhile_cons]
    split
    · rename_i hy
      have hy' : Op.bytesLess t.1 y.1 = false := by simpa using hy
      refine List.pairwise_cons.2 ⟨?_, up_insL h'.2⟩
      intro x hx
      rcases List.mem_append.1 hx with hx | hx
      · exact h'.1 x ((List.takeWhile_sublist _).subset hx)
      · rcases List.mem_cons.1 hx with rfl | hx
        · exact hy'
        · exact h'.1 x ((List.dropWhile_sublist _).subset hx)
    · rename_i hy
      have hy' : Op.bytesLess t.1 y.1 = true := by simpa using hy
      refine List.pairwise_cons.2 ⟨?_, h⟩
      intro x hx
      rcases List.mem_cons.1 hx with rfl | hx
      · exact not_less hy'
      · exact not_less (less_trans hy' (h'.1 x hx))
theorem sort_up : ∀ (l acc : List TT), UpN acc → UpN (l.foldl (fun acc t => (insR t acc.reverse).reverse) acc) ∧ l.foldl (fun acc t => insL t acc) acc = l.foldl (fun acc t => (insR t acc.reverse).reverse) acc
  | [], _, h => ⟨h, rfl⟩
  | t :: r, acc, h => by
    rw [List.foldl_cons, List.foldl_cons, ← insL_insR h]
    exact sort_up r _ (up_insL h)
theorem sortN_L (l : List TT) : l.foldl (fun acc t => insL t acc) [] = sortN l := (sort_up l [] List.Pairwise.nil).2
theorem sortN_up (l : List TT) : UpN (sortN l) := (sort_up l [] List.Pairwise.nil).1
/-- What Set gives. -/
def restT (b : List TT) (n : List UInt8) : List TT := b.filter fun x => !(x.1 == n)
def setT (b : List TT) (t : TT) : List TT × Int :=
  if rightT t.1 t.2.1 t.2.2 then
    if (restT b t.1).length = b.length ∧ 6 ≤ b.length then ([], 2) else (sortN (restT b t.1 ++ [t]), 0)
  else ([], 1)
/-- Names that go up without a double. -/
def UpS (l : List TT) : Prop := l.Pairwise fun a b => Op.bytesLess a.1 b.1 = true
theorem UpS.up {l : List TT} (h : UpS l) : UpN l := List.Pairwise.imp (fun h => not_less h) h
theorem sortN_id : ∀ {l : List TT}, UpN l → sortN l = l := by
  intro l h
  have : ∀ (l acc : List TT), UpN (acc ++ l) → l.foldl (fun acc t => insL t acc) acc = acc ++ l := by
    intro l
    induction l with
    | nil => intro acc _; simp
    | cons t r ih =>
      intro acc h
      have e : insL t acc = acc ++ [t] := by
        have ha : ∀ x ∈ acc, (!Op.bytesLess t.1 x.1) = true := by
          intro x hx
          have := (List.pairwise_append.1 h).2.2 x hx t (by simp)
          simp [this]
        unfold insL
        rw [(tw_all ha).1, (tw_all ha).2]
      rw [List.foldl_cons, e, ih _ (by simpa using h)]
      simp
  rw [← sortN_L]
  exact this l [] h
theorem mem_insL {t x : TT} {l : List TT} : x ∈ insL t l ↔ x = t ∨ x ∈ l := by
  unfold insL
  rw [List.mem_append, List.mem_cons]
  have := List.takeWhile_append_dropWhile (p := fun x : TT => !Op.bytesLess t.1 x.1) (l := l)
  conv => rhs; rw [← this, List.mem_append]
  constructor
  · rintro (h | h | h) <;> simp [h]
  · rintro (h | h | h) <;> simp [h]
theorem mem_sortN {x : TT} (l : List TT) : x ∈ sortN l ↔ x ∈ l := by
  have : ∀ (l acc : List TT), x ∈ l.foldl (fun acc t => insL t acc) acc ↔ x ∈ acc ∨ x ∈ l := by
    intro l
    induction l with
    | nil => intro acc; simp
    | cons t r ih =>
      intro acc
      rw [List.foldl_cons, ih, mem_insL, List.mem_cons]
      constructor
      · rintro ((h | h) | h) <;> simp [h]
      · rintro (h | h | h) <;> simp [h]
  rw [← sortN_L, this]; simp
theorem ups_insL {t : TT} {l : List TT} (h : UpS l) (hn : ∀ x ∈ l, x.1 ≠ t.1) : UpS (insL t l) := by
  have hu := up_insL (t := t) h.up
  unfold UpS
  have e := List.takeWhile_append_dropWhile (p := fun x : TT => !Op.bytesLess t.1 x.1) (l := l)
  unfold insL
  rw [← e] at h
  obtain ⟨h1, h2, h3⟩ := List.pairwise_append.1 h
  have hlt : ∀ x ∈ l.takeWhile (fun x : TT => !Op.bytesLess t.1 x.1), Op.bytesLess x.1 t.1 = true := by
    intro x hx
    have a1 := tw_imp hx
    have a2 := hn x ((List.takeWhile_sublist _).subset hx)
    simp only [Bool.not_eq_true', bLess_lt, decide_eq_false_iff_not] at a1 ⊢
    rw [List.not_lt] at a1
    rw [decide_eq_true_eq]
    rcases Classical.em (x.1 < t.1) with h | h
    · exact h
    · exact absurd (List.le_antisymm a1 (List.not_lt.1 h)) a2
  refine List.pairwise_append.2 ⟨h1, List.pairwise_cons.2 ⟨up_drop (by
    have : UpN l := by rw [e] at h; exact UpS.up h
    exact this), h2⟩, ?_⟩
  intro x hx y hy
  rcases List.mem_cons.1 hy with rfl | hy
  · exact hlt x hx
  · exact h3 x hx y hy
/-- Adding back the greatest of the rest puts it at the head. -/
theorem insL_head {t : TT} {l : List TT} (h : ∀ x ∈ l, Op.bytesLess t.1 x.1 = true) : insL t l = t :: l := by
  unfold insL
  cases l with
  | nil => rfl
  | cons y r =>
    have hy := h y (by simp)
    simp [List.takeWhile_cons, List.dropWhile_cons, hy]
theorem sortN_snocL (l : List TT) (t : TT) (h : UpN l) : sortN (l ++ [t]) = insL t l := by
  rw [← sortN_L, List.foldl_append, sortN_L, sortN_id h]; rfl
theorem rest_all {b : List TT} {n : List UInt8} (h : ∀ x ∈ b, x.1 ≠ n) : restT b n = b := by
  unfold restT
  rw [List.filter_eq_self]
  intro x hx
  simp [h x hx]
/-- A kept list: right tables with names that go up. -/
structure Kept (b : List TT) : Prop where
  ups : UpS b
  ri : ∀ t ∈ b, rightT t.1 t.2.1 t.2.2 = true
  le : b.length ≤ 6
theorem set_new {b : List TT} {t : TT} (hk : Kept b) (ht : rightT t.1 t.2.1 t.2.2 = true) (hn : ∀ x ∈ b, x.1 ≠ t.1) (hl : b.length < 6) :
    setT b t = (insL t b, 0) ∧ Kept (insL t b) ∧ (insL t b).length = b.length + 1 := by
  have e : (insL t b).length = b.length + 1 := by rw [insL_insR hk.ups.up]; simp [insR_len]
  refine ⟨?_, ⟨ups_insL hk.ups hn, ?_, by omega⟩, e⟩
  · unfold setT
    rw [if_pos ht, rest_all hn, if_neg (by omega), sortN_snocL _ _ hk.ups.up]
  · intro x hx
    rcases mem_insL.1 hx with rfl | hx
    · exact ht
    · exact hk.ri x hx
theorem set_full {b : List TT} {t : TT} (ht : rightT t.1 t.2.1 t.2.2 = true) (hn : ∀ x ∈ b, x.1 ≠ t.1) (hl : b.length = 6) : setT b t = ([], 2) := by
  unfold setT
  rw [if_pos ht, rest_all hn, if_pos (by omega)]
theorem set_back {b : List TT} (hk : Kept b) {j : Nat} {t : TT} (h : b[j]? = some t) : setT (b.drop (j + 1)) t = (b.drop j, 0) := by
  have e := drop_at h
  have hp : UpS (t :: b.drop (j + 1)) := by
    rw [← e]; exact List.Pairwise.sublist (List.drop_sublist _ _) hk.ups
  obtain ⟨h1, h2⟩ := List.pairwise_cons.1 hp
  have hn : ∀ x ∈ b.drop (j + 1), x.1 ≠ t.1 := by
    intro x hx he
    have := h1 x hx
    rw [he, less_irr] at this
    cases this
  have hlt := (List.getElem?_eq_some_iff.1 h).1
  have := hk.le
  unfold setT
  rw [if_pos (hk.ri t (List.mem_of_getElem? h)), rest_all hn, if_neg (by rw [List.length_drop]; omega), sortN_snocL _ _ (UpS.up h2), insL_head h1, ← e]
end Go.Proofs.YtjgooecohepkoaaGreatDoor
namespace Go.Proofs.YtjgooecohepkoaaGreatDoor
open Go Go.Abs
set_option linter.unusedSimpArgs false
set_option maxHeartbeats 2000000
/-! ### Set -/
def tabsD (l : List TT) : D := .sl (l.map encT) 3
structure GoodT (t : TT) : Prop where
  g : Good t.1 t.2.1 t.2.2
  s : Small (.mk 5 [] 0 0 0 t.2.1 t.2.2)
theorem encT_e (n : List UInt8) (c : List (List UInt8)) (r : List (List Val)) : encT (n, c, r) = [.s n, strsD c, rowsV r] := rfl
theorem tabs_nil (b : Int) : LeD (.tup [.v (.slice none 0 0), .v (.int .i64 b)]) (.tup [tabsD [], .v (.int .i64 b)]) := LeD.tup (LeL.cons (LeD.nil 3) (LeL.cons (LeD.refl _) LeL.nil))
theorem rest_snoc (l : List TT) (x : TT) (n : List UInt8) : restT (l ++ [x]) n = if x.1 = n then restT l n else restT l n ++ [x] := by
  unfold restT
  rw [List.filter_append]
  by_cases h : x.1 = n <;> simp [h]
theorem rest_len (l : List TT) (n : List UInt8) : (restT l n).length ≤ l.length := List.length_filter_le _ _
theorem f84_1 (l : List TT) (hl : l.length < 20) : FnOK sys 84 [.own 1 l.length, .v (.func (.func 85) #[] #[])] [(1, .row 28 3 (l.map encT))] (.tup []) [(1, .row 28 3 ((sortN l).map encT))] := by
  have h := FnOK.ren (args' := [.own 1 l.length, .v (.func (.func 85) #[] #[])]) [(1, 0)] (f84_ok l hl) rfl rfl (by simp only [mapS, List.map_cons, List.map_nil, subO, sub_rows]) rfl
  have e : ∀ q : List TT, subS [(1, 0)] [(0, AO.row 28 3 (q.map encT))] [(1, 0)] = [(1, .row 28 3 (q.map encT))] := fun q => by
    simp [subS, Abs.look, subO]
    intros; rfl
  rw [e, e] at h
  exact h
theorem f38_ok (b : List TT) (n : List UInt8) (c : List (List UInt8)) (r : List (List Val)) (hb : ∀ x ∈ b, GoodT x) (ht : GoodT (n, c, r)) (hl : b.length ≤ 6) :
    FnOK sys 38 [tabsD b, .agg [.s n, strsD c, rowsV r]] [] (.tup [tabsD (setT b (n, c, r)).1, .v (.int .i64 (setT b (n, c, r)).2)]) [] := by
  have h19 := f19_ok n c r ht.g.hn ht.g.hc
  have h83 := f83_ok n c r ht.s
  cases hr : rightT n c r with
  | false =>
    have e : setT b (n, c, r) = ([], 1) := by simp [setT, hr]
    rw [e]
    refine FnOK.leRes ?_ (tabs_nil 1)
    rw [hr] at h19
    refine FnOK.intro Tryz.f38 (by kernel_rfl) rfl rfl [.tmp 4, .tmp 5] rfl 0 rfl (Nat.le_of_ble_eq_true rfl) rfl rfl fun E hN h0 => W.code (N := 47) [3, 26, 42] hN ?_
    repeat (first | refine st_end rfl ?_ | ((first | refine st1 fun K k => ?_ | refine st2 fun K k => ?_ | refine st3 rfl fun K k => ?_ | refine st4 fun K k => ?_); simp only [go_sem]; refine k _ _ _ _ _ _ ?_; clear k K))
    (first | refine st1 fun K k => ?_ | refine st3 rfl fun K k => ?_); simp only [go_sem]; refine callP (h19) ?_; refine k _ _ _ _ _ _ ?_; clear k K
    repeat (first | refine st_end rfl ?_ | ((first | refine st1 fun K k => ?_ | refine st2 fun K k => ?_ | refine st3 rfl fun K k => ?_ | refine st4 fun K k => ?_); simp only [go_sem]; refine k _ _ _ _ _ _ ?_; clear k K))
    refine Done.t2 ?_
    simp only [go_sem]
  | true =>
    rw [hr] at h19
    refine FnOK.intro Tryz.f38 (by kernel_rfl) rfl rfl [.tmp 4, .tmp 5] rfl 0 rfl (Nat.le_of_ble_eq_true rfl) rfl rfl fun E hN h0 => W.code (N := 47) [3, 26, 42] hN ?_
    repeat (first | refine st_end rfl ?_ | ((first | refine st1 fun K k => ?_ | refine st2 fun K k => ?_ | refine st3 rfl fun K k => ?_ | refine st4 fun K k => ?_); simp only [go_sem]; refine k _ _ _ _ _ _ ?_; clear k K))
    (first | refine st1 fun K k => ?_ | refine st3 rfl fun K k => ?_); simp only [go_sem]; refine callP (h19) ?_; refine k _ _ _ _ _ _ ?_; clear k K
    repeat (first | refine st_end rfl ?_ | ((first | refine st1 fun K k => ?_ | refine st2 fun K k => ?_ | refine st3 rfl fun K k => ?_ | refine st4 fun K k => ?_); simp only [go_sem]; refine k _ _ _ _ _ _ ?_; clear k K))
    refine W.loopP (fun i : Nat => ⟨[(0, tabsD b), (3, .ep [.s n, strsD c, rowsV r]), (6, .own 0 (restT (b.take i) n).length), (12, tabsD b), (13, .v (.int .i64 b.length)), (14, .v (.int .i64 i))],
        [(0, .row 28 3 ((restT (b.take i) n).map encT))], 1, []⟩)
      (fun i => i ≤ b.length) (fun i => b.length - i) 0 (Nat.zero_le _) ((Into.nilRow 6 28 3 rfl).trans (Into.le ?_ ?_ (Nat.le_refl _) rfl)) fun i hi => W.code (N := 47) [3, 26, 42] hN ?_
    · simp only [go_sem, tabsD, List.take_zero, restT, List.filter_nil]
      exact LeD.refl _
    · simp only [go_sem, List.take_zero, List.map_nil, restT, List.filter_nil]
    repeat (first | refine st_end rfl ?_ | ((first | refine st1 fun K k => ?_ | refine st2 fun K k => ?_ | refine st3 rfl fun K k => ?_ | refine st4 fun K k => ?_); simp only [go_sem]; refine k _ _ _ _ _ _ ?_; clear k K))
    refine st_cond fun A B a b => ?_; simp only [go_sem]; refine ⟨fun g => a ?_, fun g => b ?_⟩ <;> clear a b A B
    · obtain ⟨⟨n', c', r'⟩, hx⟩ := getS (l := b) (i := i) (by omega)
      have w5 : IntKind.wrap .i64 ((i : Int) + 1) = ((i + 1 : Nat) : Int) := wrapTo (by omega)
      have e5 : b.take (i + 1) = b.take i ++ [(n', c', r')] := by rw [List.take_add_one, hx]; rfl
      have e6 := rest_snoc (b.take i) (n', c', r') n
      have hl0 := rest_len (b.take i) n
      have hl1 : (b.take i).length = i := by rw [List.length_take]; omega
      have h83' := f83_ok n' c' r' (hb _ (List.mem_of_getElem? hx)).s
      by_cases hne : n' = n
      · subst hne
        rw [if_pos rfl] at e6
        repeat (first | refine st_end rfl ?_ | ((first | refine st1 fun K k => ?_ | refine st2 fun K k => ?_ | refine st3 rfl fun K k => ?_ | refine st4 fun K k => ?_); simp only [go_sem, tabsD, hx, encT_e, beq_self_eq_true, Bool.not_true, w5]; refine k _ _ _ _ _ _ ?_; clear k K))
        refine ⟨i + 1, by omega, by omega, (Into.ren h0 [(0, 0)] 1 rfl).trans (Into.le ?_ ?_ (Nat.le_refl _) rfl)⟩
        · simp only [go_sem, newOf, e5, e6, tabsD, subL_encT]
        · simp only [go_sem, newOf, e5, e6, tabsD, subL_encT]
      · rw [if_neg hne] at e6
        have hne' : (n' == n) = false := by simpa using hne
        have b1 : (restT (b.take i) n).length + 1 ≤ maxLen := by unfold maxLen; omega
        have b2 : ((restT (b.take i) n).length + 1) * 64 ≤ 140737488355328 := by omega
        repeat (first | refine st_end rfl ?_ | ((first | refine st1 fun K k => ?_ | refine st2 fun K k => ?_ | refine st3 rfl fun K k => ?_ | refine st4 fun K k => ?_); simp only [go_sem, tabsD, hx, encT_e, hne', Bool.not_false]; refine k _ _ _ _ _ _ ?_; clear k K))
        (first | refine st1 fun K k => ?_ | refine st3 rfl fun K k => ?_); simp only [go_sem]; refine callP (h83') ?_; refine k _ _ _ _ _ _ ?_; clear k K
        repeat (first | refine st_end rfl ?_ | ((first | refine st1 fun K k => ?_ | refine st2 fun K k => ?_ | refine st3 rfl fun K k => ?_ | refine st4 fun K k => ?_); simp only [go_sem, b1, b2, List.length_map, w5]; refine k _ _ _ _ _ _ ?_; clear k K))
        refine ⟨i + 1, by omega, by omega, (Into.ren h0 [(0, 2)] 1 rfl).trans (Into.le ?_ ?_ (Nat.le_refl _) rfl)⟩
        · simp only [go_sem, newOf, e5, e6, tabsD, List.length_append, List.length_cons, List.length_nil]
        · simp only [go_sem, newOf, e5, e6, tabsD, subL_encT, List.map_append, List.map_cons, List.map_nil, encT_e]
    · obtain rfl : i = b.length := by omega
      rw [List.take_length]
      have hl0 := rest_len b n
      obtain ⟨R, hR⟩ : ∃ R, restT b n = R := ⟨_, rfl⟩
      have e1 : (IntKind.wrap .i64 (b.length : Int)) = b.length := wrapTo (by omega)
      by_cases hfull : R.length = b.length ∧ 6 ≤ b.length
      · have e : setT b (n, c, r) = ([], 2) := by simp [setT, hr, hR, hfull]
        rw [e]
        have q1 : ((R.length : Int) == (b.length : Int)) = true := by rw [hfull.1]; simp
        have q2 : ((6 : Int) ≤ (b.length : Int)) := by omega
        refine iq Into.refl ?_
        rw [hR]
        repeat (first | refine st_end rfl ?_ | ((first | refine st1 fun K k => ?_ | refine st2 fun K k => ?_ | refine st3 rfl fun K k => ?_ | refine st4 fun K k => ?_); simp only [go_sem, tabsD, q1, q2, decide_true, List.length_map]; refine k _ _ _ _ _ _ ?_; clear k K))
        simp only [go_sem]
        refine Done.into (Into.le (st' := ⟨[(4, tabsD []), (5, .v (.int .i64 2))], [], 1, []⟩) ?_ ?_ (Nat.le_refl _) rfl) (Done.t2 ?_)
        · simp only [go_sem]
          exact LeD.nil 3
        · simp only [go_sem]
        · rfl
      · have e : setT b (n, c, r) = (sortN (R ++ [(n, c, r)]), 0) := by simp [setT, hr, hR, hfull]
        rw [e]
        have b1 : R.length + 1 ≤ maxLen := by rw [← hR]; unfold maxLen; omega
        have b2 : (R.length + 1) * 64 ≤ 140737488355328 := by rw [← hR]; omega
        have hRl : R.length ≤ 6 := by rw [← hR]; omega
        have h84 := f84_1 (R ++ [(n, c, r)]) (by simp; omega)
        have hlen : (R ++ [(n, c, r)]).length = R.length + 1 := by simp
        rw [hlen] at h84
        refine iq Into.refl ?_
        rw [hR]
        by_cases q : R.length = b.length
        · have q1 : ((R.length : Int) == (b.length : Int)) = true := by rw [q]; simp
          have q2 : ¬ ((6 : Int) ≤ (b.length : Int)) := fun h => hfull ⟨q, by omega⟩
          repeat (first | refine st_end rfl ?_ | ((first | refine st1 fun K k => ?_ | refine st2 fun K k => ?_ | refine st3 rfl fun K k => ?_ | refine st4 fun K k => ?_); simp only [go_sem, tabsD, q1, q2, decide_false, List.length_map]; refine k _ _ _ _ _ _ ?_; clear k K))
          (first | refine st1 fun K k => ?_ | refine st3 rfl fun K k => ?_); simp only [go_sem]; refine callP (h83) ?_; refine k _ _ _ _ _ _ ?_; clear k K
          repeat (first | refine st_end rfl ?_ | ((first | refine st1 fun K k => ?_ | refine st2 fun K k => ?_ | refine st3 rfl fun K k => ?_ | refine st4 fun K k => ?_); simp only [go_sem, b1, b2, List.length_map]; refine k _ _ _ _ _ _ ?_; clear k K))
          (first | refine st1 fun K k => ?_ | refine st3 rfl fun K k => ?_); simp only [go_sem, List.map_append, List.map_cons, List.map_nil, encT_e]
          simp only [List.map_append, List.map_cons, List.map_nil, encT_e] at h84
          refine callT h84 2 (by simp only [go_sem]) (by omega) (by simp only [go_sem]) ?_
          simp only [go_sem]
          refine k _ _ _ _ _ _ ?_; clear k K
          repeat (first | refine st_end rfl ?_ | ((first | refine st1 fun K k => ?_ | refine st2 fun K k => ?_ | refine st3 rfl fun K k => ?_ | refine st4 fun K k => ?_); simp only [go_sem]; refine k _ _ _ _ _ _ ?_; clear k K))
          refine Done.mk (.inr rfl) (Into.frz [1] ?_) ?_ [] 0 ?_ ?_ ?_ ?_
          · simp only [go_sem]
            intro e he
            obtain ⟨q, _, rfl⟩ := List.mem_map.1 he; rfl
          · rfl
          · rfl
          · simp only [go_sem, tabsD, List.length_map, sortN_len, hlen, decide_true]
          · trivial
          · rfl
        · have q1 : ((R.length : Int) == (b.length : Int)) = false := by simp; omega
          repeat (first | refine st_end rfl ?_ | ((first | refine st1 fun K k => ?_ | refine st2 fun K k => ?_ | refine st3 rfl fun K k => ?_ | refine st4 fun K k => ?_); simp only [go_sem, tabsD, q1, List.length_map]; refine k _ _ _ _ _ _ ?_; clear k K))
          (first | refine st1 fun K k => ?_ | refine st3 rfl fun K k => ?_); simp only [go_sem]; refine callP (h83) ?_; refine k _ _ _ _ _ _ ?_; clear k K
          repeat (first | refine st_end rfl ?_ | ((first | refine st1 fun K k => ?_ | refine st2 fun K k => ?_ | refine st3 rfl fun K k => ?_ | refine st4 fun K k => ?_); simp only [go_sem, b1, b2, List.length_map]; refine k _ _ _ _ _ _ ?_; clear k K))
          (first | refine st1 fun K k => ?_ | refine st3 rfl fun K k => ?_); simp only [go_sem, List.map_append, List.map_cons, List.map_nil, encT_e]
          simp only [List.map_append, List.map_cons, List.map_nil, encT_e] at h84
          refine callT h84 2 (by simp only [go_sem]) (by omega) (by simp only [go_sem]) ?_
          simp only [go_sem]
          refine k _ _ _ _ _ _ ?_; clear k K
          repeat (first | refine st_end rfl ?_ | ((first | refine st1 fun K k => ?_ | refine st2 fun K k => ?_ | refine st3 rfl fun K k => ?_ | refine st4 fun K k => ?_); simp only [go_sem]; refine k _ _ _ _ _ _ ?_; clear k K))
          refine Done.mk (.inr rfl) (Into.frz [1] ?_) ?_ [] 0 ?_ ?_ ?_ ?_
          · simp only [go_sem]
            intro e he
            obtain ⟨q, _, rfl⟩ := List.mem_map.1 he; rfl
          · rfl
          · rfl
          · simp only [go_sem, tabsD, List.length_map, sortN_len, hlen, decide_true]
          · trivial
          · rfl
end Go.Proofs.YtjgooecohepkoaaGreatDoor
