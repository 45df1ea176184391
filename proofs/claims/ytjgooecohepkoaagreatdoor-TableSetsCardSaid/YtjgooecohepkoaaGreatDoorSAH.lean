/- Contracts of the functions that the statement reaches. -/
import Derived.Test.YtjgooecohepkoaaGreatDoorSAG
import Derived.Test.YtjgooecohepkoaaGreatDoorSAD
import Derived.Test.YtjgooecohepkoaaGreatDoorSAB
set_option linter.unusedVariables false
set_option linter.unusedSimpArgs false
namespace Go.Proofs.YtjgooecohepkoaaGreatDoor
open Go Go.Abs
set_option linter.unusedSimpArgs false
set_option maxHeartbeats 2000000
theorem rowsR_len {cols : List (List UInt8)} {rows : List (List Val)} (h : rowsR cols rows = true) : ∀ r ∈ rows, r.length = cols.length := by
  intro r hr
  simp only [rowsR, Bool.and_eq_true, List.all_eq_true] at h
  have := h.2 r hr
  simp only [rowR, Bool.and_eq_true, decide_eq_true_eq] at this
  exact this.1
theorem f19_ok (name : List UInt8) (cols : List (List UInt8)) (rows : List (List Val)) (hn : name.length ≤ 1000000) (hcs : ∀ c ∈ cols, c.length ≤ 1000000) :
    FnOK sys 19 [.agg [.s name, strsD cols, rowsV rows]] [] (.v (.bool (rightT name cols rows))) [] := by
  refine FnOK.introR Tryz.f19 (by kernel_rfl) rfl rfl [.cell 2 4] rfl 0 rfl (Nat.le_of_ble_eq_true rfl) rfl rfl fun E hN hrd h0 => W.boundA 0 1 rfl rfl fun hb => W.code (N := 51) [1] hN ?_
  simp only [List.length_map, maxLen] at hb
  have h61 := f61_ok name cols rows
  have h60 := f60_ok (.mk 5 [] 0 0 0 cols rows) hcs
  have e60 : rightV (.mk 5 [] 0 0 0 cols rows) = rowsR cols rows := by simp [rightV]
  rw [e60] at h60
  repeat (first | refine st_end rfl ?_ | ((first | refine st1 fun K k => ?_ | refine st2 fun K k => ?_ | refine st3 rfl fun K k => ?_ | refine st4 fun K k => ?_); simp only [go_sem]; refine k _ _ _ _ _ _ ?_; clear k K))
  (first | refine st1 fun K k => ?_ | refine st3 rfl fun K k => ?_); simp only [go_sem]; refine callP (f59_ok name hn) ?_; refine k _ _ _ _ _ _ ?_; clear k K
  cases q1 : nameR name with
  | false =>
    repeat (first | refine st_end rfl ?_ | ((first | refine st1 fun K k => ?_ | refine st2 fun K k => ?_ | refine st3 rfl fun K k => ?_ | refine st4 fun K k => ?_); simp only [go_sem]; refine k _ _ _ _ _ _ ?_; clear k K))
    refine Done.mk (.inr rfl) Into.refl rfl [] 0 rfl ?_ trivial rfl
    simp only [go_sem, rightT, q1, Bool.false_and]
  | true =>
  by_cases q2 : cols = []
  · have q3 : ((cols.length : Int) == 0) = true := by simp [q2]
    have q4 : cols.isEmpty = true := by simp [q2]
    repeat (first | refine st_end rfl ?_ | ((first | refine st1 fun K k => ?_ | refine st2 fun K k => ?_ | refine st3 rfl fun K k => ?_ | refine st4 fun K k => ?_); simp only [go_sem, q3]; refine k _ _ _ _ _ _ ?_; clear k K))
    refine Done.mk (.inr rfl) Into.refl rfl [] 0 rfl ?_ trivial rfl
    simp only [go_sem, rightT, q4, Bool.false_and, Bool.and_false]
  have q3 : ((cols.length : Int) == 0) = false := by
    have : cols.length ≠ 0 := fun h => q2 (List.eq_nil_of_length_eq_zero h)
    simpa using this
  have q4 : cols.isEmpty = false := by simpa using q2
  repeat (first | refine st_end rfl ?_ | ((first | refine st1 fun K k => ?_ | refine st2 fun K k => ?_ | refine st3 rfl fun K k => ?_ | refine st4 fun K k => ?_); simp only [go_sem, q3]; refine k _ _ _ _ _ _ ?_; clear k K))
  (first | refine st1 fun K k => ?_ | refine st3 rfl fun K k => ?_); simp only [go_sem]; refine callP (h61) ?_; refine k _ _ _ _ _ _ ?_; clear k K
  repeat (first | refine st_end rfl ?_ | ((first | refine st1 fun K k => ?_ | refine st2 fun K k => ?_ | refine st3 rfl fun K k => ?_ | refine st4 fun K k => ?_); simp only [go_sem]; refine k _ _ _ _ _ _ ?_; clear k K))
  (first | refine st1 fun K k => ?_ | refine st3 rfl fun K k => ?_); simp only [go_sem]; refine callP (h60) ?_; refine k _ _ _ _ _ _ ?_; clear k K
  cases q5 : rowsR cols rows with
  | false =>
    repeat (first | refine st_end rfl ?_ | ((first | refine st1 fun K k => ?_ | refine st2 fun K k => ?_ | refine st3 rfl fun K k => ?_ | refine st4 fun K k => ?_); simp only [go_sem]; refine k _ _ _ _ _ _ ?_; clear k K))
    refine Done.mk (.inr rfl) Into.refl rfl [] 0 rfl ?_ trivial rfl
    simp only [go_sem, rightT, q4, q5, Bool.and_false, Bool.false_and]
  | true =>
  have hlen := rowsR_len q5
  have hrt : rightT name cols rows = (List.range cols.length).all fun c => okCol (rows.map (kindAt c)) := by simp [rightT, q1, q4, q5]
  rw [hrt]
  repeat (first | refine st_end rfl ?_ | ((first | refine st1 fun K k => ?_ | refine st2 fun K k => ?_ | refine st3 rfl fun K k => ?_ | refine st4 fun K k => ?_); simp only [go_sem]; refine k _ _ _ _ _ _ ?_; clear k K))
  refine W.loopP (fun i : Nat => ⟨[(1, .ep [.s name, strsD cols, rowsV rows]), (2, .ref 0 0), (25, .v (.int .i64 cols.length)), (26, .v (.int .i64 i))], [(0, .box [.v (.bool false)])], 1, []⟩)
    (fun i => i ≤ cols.length ∧ ∀ c, c < i → okCol (rows.map (kindAt c)) = true) (fun i => cols.length - i) 0 ⟨by omega, by omega⟩ (Into.le ?_ ?_ (Nat.le_refl _) rfl) fun i hi => W.code (N := 51) [1] hN ?_
  · simp only [go_sem]
    exact LeD.refl _
  · simp only [go_sem]
  repeat (first | refine st_end rfl ?_ | ((first | refine st1 fun K k => ?_ | refine st2 fun K k => ?_ | refine st3 rfl fun K k => ?_ | refine st4 fun K k => ?_); simp only [go_sem]; refine k _ _ _ _ _ _ ?_; clear k K))
  refine st_cond fun A B a b => ?_; simp only [go_sem]; refine ⟨fun g => a ?_, fun g => b ?_⟩ <;> clear a b A B
  · repeat (first | refine st_end rfl ?_ | ((first | refine st1 fun K k => ?_ | refine st2 fun K k => ?_ | refine st3 rfl fun K k => ?_ | refine st4 fun K k => ?_); simp only [go_sem]; refine k _ _ _ _ _ _ ?_; clear k K))
    (first | refine st1 fun K k => ?_ | refine st3 rfl fun K k => ?_); simp only [go_sem]; refine callP (f53_ok rows i) ?_; refine k _ _ _ _ _ _ ?_; clear k K
    repeat (first | refine st_end rfl ?_ | ((first | refine st1 fun K k => ?_ | refine st2 fun K k => ?_ | refine st3 rfl fun K k => ?_ | refine st4 fun K k => ?_); simp only [go_sem]; refine k _ _ _ _ _ _ ?_; clear k K))
    refine W.into (st' := ⟨[(1, .ep [.s name, strsD cols, rowsV rows]), (2, .ref 0 0), (4, .ref 1 0), (25, .v (.int .i64 cols.length)), (26, .v (.int .i64 i)), (32, .fn (.func 100) [] [.ep [rowsV rows], .ep [.v (.int .i64 i)]])], [(0, .box [.v (.bool false)]), (1, .box [.v (.int .i64 0)])], 2, []⟩) (Into.le ?_ ?_ (Nat.le_refl _) rfl) ?_
    · simp only [go_sem]
    · simp only [go_sem]
    obtain ⟨ks, hks⟩ : ∃ l, rows.map (kindAt i) = l := ⟨_, rfl⟩
    have hat : ∀ (a : Nat) (r : List Val) (v : Val), rows[a]? = some r → r[i]? = some v → ks[a]? = some v.kind := by
      intro a r v h1 h2
      rw [← hks, List.getElem?_map, h1]
      simp [kindAt, h2]
    obtain ⟨p, hp⟩ : ∃ p : Nat → Bool, ∀ a, p a = decide (kind1 (ks.take a) = 0 ∨ ks.getD a 0 = 0 ∨ ks.getD a 0 = kind1 (ks.take a)) := ⟨_, fun _ => rfl⟩
    have hlen2 : ks.length = rows.length := by rw [← hks, List.length_map]
    obtain ⟨k, j, hk, hj, hrd2, hall, hbad⟩ := rounds' p .ret rows.length
    refine W.column rows i (fun r hr => by rw [hlen r hr]; omega) hrd (by rfl) rfl (by rw [hN]; rfl) (fun a => [(0, .box [.v (.bool false)]), (1, .box [.v (.int .i64 (kind1 (ks.take a)))])]) (by simp only [go_sem, kind1_nil]) (fun _ => rfl) (fun _ => by simp only [go_sem]) (by simp only [go_sem]) rfl ?_ ?_ k hk j ?_ ?_ ?_
    · intro θ hθ
      have t0 := hθ 0 (by simp [namesL])
      have t1 := hθ 1 (by simp [namesL])
      simp only [go_sem, t0, t1]
    · intro a θ hθ
      simp only [go_sem]
    · rcases hj with h | ⟨h, h'⟩
      · exact .inl h
      · exact .inr ⟨by rw [h]; simp, h'⟩
    · intro a r v hak hr hv E' hN' hrd' h0' L
      have hka := hat a r v hr hv
      have hpa := hp a
      have hsucc := kind1_succ hka
      have hjr := hrd2 a hak
      have hget : ks.getD a 0 = v.kind := by rw [List.getD_eq_getElem?_getD, hka]; rfl
      rw [hget] at hpa
      obtain ⟨kd, s, dn, ds, num, c', r'⟩ := v
      simp only [Val.kind] at hka hpa hsucc
      simp only [zipT, setT]
      refine W.code (N := 51) [] (hN'.trans hN) ?_
      simp only [encV]
      repeat (first | refine st_end rfl ?_ | ((first | refine st1 fun K k => ?_ | refine st2 fun K k => ?_ | refine st3 rfl fun K k => ?_ | refine st4 fun K k => ?_); simp only [go_sem]; refine k _ _ _ _ _ _ ?_; clear k K))
      refine ⟨_, Into.refl, rfl, fun L' => W.code (N := 51) [] (hN'.trans hN) ?_⟩
      simp only [go_sem]
      obtain ⟨q, hq⟩ : ∃ q, kind1 (ks.take a) = q := ⟨_, rfl⟩
      rw [hq] at hpa hsucc ⊢
      by_cases z1 : q = 0
      · have z1' : (q == 0) = true := by simpa using z1
        have hjj : (if a + 1 = k then j else none) = none := by
          rcases hjr with h | h
          · exact h.2
          · rw [hpa] at h; simp [z1] at h
        rw [hjj]
        repeat (first | refine st_end rfl ?_ | ((first | refine st1 fun K k => ?_ | refine st2 fun K k => ?_ | refine st3 rfl fun K k => ?_ | refine st4 fun K k => ?_); simp only [go_sem, z1']; refine k _ _ _ _ _ _ ?_; clear k K))
        refine ⟨rfl, _, Into.refl, rfl, ?_⟩
        rw [if_pos z1] at hsucc
        simp only [go_sem, hsucc]
      · have z1' : (q == 0) = false := by simpa using z1
        rw [if_neg z1] at hsucc
        by_cases z2 : kd = 0
        · have z2' : (kd != 0) = false := by simpa using z2
          have hjj : (if a + 1 = k then j else none) = none := by
            rcases hjr with h | h
            · exact h.2
            · rw [hpa] at h; simp [z2] at h
          rw [hjj]
          repeat (first | refine st_end rfl ?_ | ((first | refine st1 fun K k => ?_ | refine st2 fun K k => ?_ | refine st3 rfl fun K k => ?_ | refine st4 fun K k => ?_); simp only [go_sem, z1', z2']; refine k _ _ _ _ _ _ ?_; clear k K))
          refine ⟨rfl, _, Into.refl, rfl, ?_⟩
          simp only [go_sem, hsucc]
        · have z2' : (kd != 0) = true := by simpa using z2
          by_cases z3 : kd = q
          · have z3' : (kd != q) = false := by simpa using z3
            have hjj : (if a + 1 = k then j else none) = none := by
              rcases hjr with h | h
              · exact h.2
              · rw [hpa] at h; simp [z3] at h
            rw [hjj]
            repeat (first | refine st_end rfl ?_ | ((first | refine st1 fun K k => ?_ | refine st2 fun K k => ?_ | refine st3 rfl fun K k => ?_ | refine st4 fun K k => ?_); simp only [go_sem, z1', z2', z3']; refine k _ _ _ _ _ _ ?_; clear k K))
            refine ⟨rfl, _, Into.refl, rfl, ?_⟩
            simp only [go_sem, hsucc]
          · have z3' : (kd != q) = true := by simpa using z3
            have hjj : (if a + 1 = k then j else none) = some .ret := by
              rcases hjr with h | h
              · rw [hpa] at h; simp [z1, z2, z3] at h
              · exact h.2.1
            rw [hjj]
            repeat (first | refine st_end rfl ?_ | ((first | refine st1 fun K k => ?_ | refine st2 fun K k => ?_ | refine st3 rfl fun K k => ?_ | refine st4 fun K k => ?_); simp only [go_sem, z1', z2', z3']; refine k _ _ _ _ _ _ ?_; clear k K))
            refine ⟨rfl, _, Into.refl, rfl, ?_⟩
            simp only [go_sem, hsucc]
    · rcases hj with ⟨rfl, hkn⟩ | ⟨rfl, hk0⟩
      · have hok : okCol (rows.map (kindAt i)) = true := by
          rw [hks, okCol_iff]
          intro a x hx
          have := hall rfl a (by rw [← hlen2]; exact (List.getElem?_eq_some_iff.1 hx).1)
          rw [hp, List.getD_eq_getElem?_getD, hx] at this
          simpa using this
        have w5 : IntKind.wrap .i64 ((i : Int) + 1) = ((i + 1 : Nat) : Int) := wrapTo (by omega)
        repeat (first | refine st_end rfl ?_ | ((first | refine st1 fun K k => ?_ | refine st2 fun K k => ?_ | refine st3 rfl fun K k => ?_ | refine st4 fun K k => ?_); simp only [go_sem, w5]; refine k _ _ _ _ _ _ ?_; clear k K))
        refine ⟨i + 1, ⟨by omega, fun c hc => ?_⟩, by omega, (Into.ren h0 [(0, 0)] 1 rfl).trans (Into.le ?_ ?_ (Nat.le_refl _) rfl)⟩
        · by_cases e : c = i
          · rw [e]; exact hok
          · exact hi.2 c (by omega)
        · simp only [go_sem, newOf]
        · simp only [go_sem, newOf]
      · have hok : okCol (rows.map (kindAt i)) = false := by
          rw [hks, ← Bool.not_eq_true, okCol_iff]
          intro h
          have h1 := hbad rfl
          rw [hp] at h1
          obtain ⟨x, hx⟩ := getS (l := ks) (i := k - 1) (by omega)
          have := h (k - 1) x hx
          rw [List.getD_eq_getElem?_getD, hx] at h1
          simp only [Option.getD_some, decide_eq_false_iff_not] at h1
          exact h1 this
        have hno : ((List.range cols.length).all fun c => okCol (rows.map (kindAt c))) = false := by
          rw [← Bool.not_eq_true, List.all_eq_true]
          intro h
          have := h i (by simp; omega)
          rw [hok] at this; cases this
        refine W.code (N := 51) [] hN ?_
        repeat (first | refine st_end rfl ?_ | ((first | refine st1 fun K k => ?_ | refine st2 fun K k => ?_ | refine st3 rfl fun K k => ?_ | refine st4 fun K k => ?_); simp only [go_sem]; refine k _ _ _ _ _ _ ?_; clear k K))
        refine iq Into.refl ?_
        refine Done.mk (.inr rfl) Into.refl rfl [] 0 rfl ?_ trivial rfl
        simp only [go_sem, hno]
  · obtain rfl : i = cols.length := by omega
    refine iq Into.refl ?_
    repeat (first | refine st_end rfl ?_ | ((first | refine st1 fun K k => ?_ | refine st2 fun K k => ?_ | refine st3 rfl fun K k => ?_ | refine st4 fun K k => ?_); simp only [go_sem]; refine k _ _ _ _ _ _ ?_; clear k K))
    refine Done.mk (.inr rfl) Into.refl rfl [] 0 rfl ?_ trivial rfl
    simp only [go_sem]
    have : ((List.range cols.length).all fun c => okCol (rows.map (kindAt c))) = true := by
      rw [List.all_eq_true]
      intro c hc
      exact hi.2 c (by simpa using hc)
    rw [this]
end Go.Proofs.YtjgooecohepkoaaGreatDoor
namespace Go.Proofs.YtjgooecohepkoaaGreatDoor
open Go Go.Abs
set_option linter.unusedSimpArgs false
set_option maxHeartbeats 2000000
/-! ### Right tables, by the reference -/
theorem kind1_find {l : List Int} {i : Nat} {x : Int} (h : l[i]? = some x) (h0 : kind1 (l.take i) = 0) (hx : x ≠ 0) : kind1 l = x := by
  have h2 := kind1_succ h
  rw [if_pos h0] at h2
  rw [kind1_take (i := i + 1) (by rw [h2]; exact hx), h2]
theorem f64_ok (name : List UInt8) (cols : List (List UInt8)) (rows : List (List Val)) (c : Nat) (hlen : ∀ r ∈ rows, c < r.length) : FnOK sys 64 [.agg [.s name, strsD cols, rowsV rows], .v (.int .i64 c)] [] (.v (.int .i64 (kind1 (rows.map (kindAt c))))) [] := by
  refine FnOK.intro Tryz.f64 (by kernel_rfl) rfl rfl [.tmp 4] rfl 0 rfl (Nat.le_of_ble_eq_true rfl) rfl rfl fun E hN h0 => W.boundA 0 2 rfl rfl fun hb => W.code (N := 32) [2] hN ?_
  simp only [List.length_map, maxLen] at hb
  repeat (first | refine st_end rfl ?_ | ((first | refine st1 fun K k => ?_ | refine st2 fun K k => ?_ | refine st3 rfl fun K k => ?_ | refine st4 fun K k => ?_); simp only [go_sem]; refine k _ _ _ _ _ _ ?_; clear k K))
  refine W.loopP (fun i : Nat => ⟨[(1, .v (.int .i64 c)), (2, .ep [.s name, strsD cols, rowsV rows]), (5, .v (.int .i64 i))], [], 0, []⟩)
    (fun i => i ≤ rows.length ∧ kind1 ((rows.map (kindAt c)).take i) = 0) (fun i => rows.length - i) 0 ⟨by omega, rfl⟩ (Into.le ?_ trivial (Nat.le_refl _) rfl) fun i hi => W.code (N := 32) [2] hN ?_
  · simp only [go_sem]
    exact LeD.refl _
  repeat (first | refine st_end rfl ?_ | ((first | refine st1 fun K k => ?_ | refine st2 fun K k => ?_ | refine st3 rfl fun K k => ?_ | refine st4 fun K k => ?_); simp only [go_sem]; refine k _ _ _ _ _ _ ?_; clear k K))
  refine st_cond fun A B a b => ?_; simp only [go_sem]; refine ⟨fun g => a ?_, fun g => b ?_⟩ <;> clear a b A B
  · obtain ⟨r, hr⟩ := getS (l := rows) (i := i) (by omega)
    obtain ⟨v, hv⟩ := getS (l := r) (i := c) (hlen r (List.mem_of_getElem? hr))
    have hk : (rows.map (kindAt c))[i]? = some v.kind := by rw [List.getElem?_map, hr]; simp [kindAt, hv]
    obtain ⟨kd, s, dn, ds, num, c', r'⟩ := v
    simp only [Val.kind] at hk
    by_cases z : kd = 0
    · have z' : (kd != 0) = false := by simpa using z
      have w5 : IntKind.wrap .i64 ((i : Int) + 1) = ((i + 1 : Nat) : Int) := wrapTo (by omega)
      repeat (first | refine st_end rfl ?_ | ((first | refine st1 fun K k => ?_ | refine st2 fun K k => ?_ | refine st3 rfl fun K k => ?_ | refine st4 fun K k => ?_); simp only [go_sem, hr, hv, encV, z', w5]; refine k _ _ _ _ _ _ ?_; clear k K))
      refine ⟨i + 1, ⟨by omega, ?_⟩, by omega, Into.le ?_ trivial (Nat.le_refl _) rfl⟩
      · rw [kind1_succ hk, if_pos hi.2, z]
      · simp only [go_sem]
    · have z' : (kd != 0) = true := by simpa using z
      repeat (first | refine st_end rfl ?_ | ((first | refine st1 fun K k => ?_ | refine st2 fun K k => ?_ | refine st3 rfl fun K k => ?_ | refine st4 fun K k => ?_); simp only [go_sem, hr, hv, encV, z']; refine k _ _ _ _ _ _ ?_; clear k K))
      refine iq Into.refl (Done.t1 ?_)
      simp only [go_sem, kind1_find hk hi.2 z]
  · refine iq Into.refl ?_
    repeat (first | refine st_end rfl ?_ | ((first | refine st1 fun K k => ?_ | refine st2 fun K k => ?_ | refine st3 rfl fun K k => ?_ | refine st4 fun K k => ?_); simp only [go_sem]; refine k _ _ _ _ _ _ ?_; clear k K))
    refine Done.t1 ?_
    have := hi.2
    rw [List.take_of_length_le (by simp; omega)] at this
    simp only [go_sem, this]
theorem f20_ok (name : List UInt8) (cols : List (List UInt8)) (rows : List (List Val)) (hn : name.length ≤ 1000000) (hcs : ∀ c ∈ cols, c.length ≤ 1000000) (hrs : ∀ row ∈ rows, ∀ v ∈ row, v.str.length ≤ 1000000) :
    FnOK sys 20 [.agg [.s name, strsD cols, rowsV rows]] [] (.v (.bool (rightT name cols rows))) [] := by
  refine FnOK.intro Tryz.f20 (by kernel_rfl) rfl rfl [.tmp 2] rfl 0 rfl (Nat.le_of_ble_eq_true rfl) rfl rfl fun E hN h0 => W.boundA 0 1 rfl rfl fun hb => W.boundA 0 2 rfl rfl fun hb2 => W.code (N := 66) [1] hN ?_
  simp only [List.length_map, maxLen] at hb hb2
  have h21 := f21_ok name cols rows
  have h63 := f63_ok (.mk 5 [] 0 0 0 cols rows) ⟨by simp, hcs, hrs⟩
  have e60 : rightV (.mk 5 [] 0 0 0 cols rows) = rowsR cols rows := by simp [rightV]
  rw [e60] at h63
  repeat (first | refine st_end rfl ?_ | ((first | refine st1 fun K k => ?_ | refine st2 fun K k => ?_ | refine st3 rfl fun K k => ?_ | refine st4 fun K k => ?_); simp only [go_sem]; refine k _ _ _ _ _ _ ?_; clear k K))
  (first | refine st1 fun K k => ?_ | refine st3 rfl fun K k => ?_); simp only [go_sem]; refine callP (f62_ok name hn) ?_; refine k _ _ _ _ _ _ ?_; clear k K
  repeat (first | refine st_end rfl ?_ | ((first | refine st1 fun K k => ?_ | refine st2 fun K k => ?_ | refine st3 rfl fun K k => ?_ | refine st4 fun K k => ?_); simp only [go_sem]; refine k _ _ _ _ _ _ ?_; clear k K))
  (first | refine st1 fun K k => ?_ | refine st3 rfl fun K k => ?_); simp only [go_sem]; refine callP (h21) ?_; refine k _ _ _ _ _ _ ?_; clear k K
  repeat (first | refine st_end rfl ?_ | ((first | refine st1 fun K k => ?_ | refine st2 fun K k => ?_ | refine st3 rfl fun K k => ?_ | refine st4 fun K k => ?_); simp only [go_sem]; refine k _ _ _ _ _ _ ?_; clear k K))
  (first | refine st1 fun K k => ?_ | refine st3 rfl fun K k => ?_); simp only [go_sem]; refine callP (h63) ?_; refine k _ _ _ _ _ _ ?_; clear k K
  cases q1 : nameR name with
  | false =>
    repeat (first | refine st_end rfl ?_ | ((first | refine st1 fun K k => ?_ | refine st2 fun K k => ?_ | refine st3 rfl fun K k => ?_ | refine st4 fun K k => ?_); simp only [go_sem]; refine k _ _ _ _ _ _ ?_; clear k K))
    refine Done.t1 ?_
    simp only [go_sem, rightT, q1, Bool.false_and]
  | true =>
  cases q5 : rowsR cols rows with
  | false =>
    repeat (first | refine st_end rfl ?_ | ((first | refine st1 fun K k => ?_ | refine st2 fun K k => ?_ | refine st3 rfl fun K k => ?_ | refine st4 fun K k => ?_); simp only [go_sem]; refine k _ _ _ _ _ _ ?_; clear k K))
    refine Done.t1 ?_
    simp only [go_sem, rightT, q5, Bool.and_false, Bool.false_and]
  | true =>
  by_cases q2 : cols = []
  · have q3 : ((cols.length : Int) == 0) = true := by simp [q2]
    have q4 : cols.isEmpty = true := by simp [q2]
    repeat (first | refine st_end rfl ?_ | ((first | refine st1 fun K k => ?_ | refine st2 fun K k => ?_ | refine st3 rfl fun K k => ?_ | refine st4 fun K k => ?_); simp only [go_sem, q3]; refine k _ _ _ _ _ _ ?_; clear k K))
    refine Done.t1 ?_
    simp only [go_sem, rightT, q4, Bool.false_and, Bool.and_false]
  have q3 : ((cols.length : Int) == 0) = false := by
    have : cols.length ≠ 0 := fun h => q2 (List.eq_nil_of_length_eq_zero h)
    simpa using this
  have q4 : cols.isEmpty = false := by simpa using q2
  have hlen := rowsR_len q5
  have hrt : rightT name cols rows = (List.range cols.length).all fun c => okCol (rows.map (kindAt c)) := by simp [rightT, q1, q4, q5]
  rw [hrt]
  repeat (first | refine st_end rfl ?_ | ((first | refine st1 fun K k => ?_ | refine st2 fun K k => ?_ | refine st3 rfl fun K k => ?_ | refine st4 fun K k => ?_); simp only [go_sem, q3]; refine k _ _ _ _ _ _ ?_; clear k K))
  refine W.loopP (fun i : Nat => ⟨[(1, .ep [.s name, strsD cols, rowsV rows]), (5, .v (.int .i64 i))], [], 0, []⟩)
    (fun i => i ≤ cols.length ∧ ∀ c, c < i → okCol (rows.map (kindAt c)) = true) (fun i => cols.length - i) 0 ⟨by omega, by omega⟩ (Into.le ?_ trivial (Nat.le_refl _) rfl) fun i hi => W.code (N := 66) [1] hN ?_
  · simp only [go_sem]
    exact LeD.refl _
  repeat (first | refine st_end rfl ?_ | ((first | refine st1 fun K k => ?_ | refine st2 fun K k => ?_ | refine st3 rfl fun K k => ?_ | refine st4 fun K k => ?_); simp only [go_sem]; refine k _ _ _ _ _ _ ?_; clear k K))
  refine st_cond fun A B a b => ?_; simp only [go_sem]; refine ⟨fun g => a ?_, fun g => b ?_⟩ <;> clear a b A B
  · repeat (first | refine st_end rfl ?_ | ((first | refine st1 fun K k => ?_ | refine st2 fun K k => ?_ | refine st3 rfl fun K k => ?_ | refine st4 fun K k => ?_); simp only [go_sem]; refine k _ _ _ _ _ _ ?_; clear k K))
    (first | refine st1 fun K k => ?_ | refine st3 rfl fun K k => ?_); simp only [go_sem]; refine callP (f64_ok name cols rows i (fun r hr => by rw [hlen r hr]; omega)) ?_; refine k _ _ _ _ _ _ ?_; clear k K
    obtain ⟨ks, hks⟩ : ∃ l, rows.map (kindAt i) = l := ⟨_, rfl⟩
    have hno : okCol ks = false → ((List.range cols.length).all fun c => okCol (rows.map (kindAt c))) = false := by
      intro hok
      rw [← Bool.not_eq_true, List.all_eq_true]
      intro h
      have := h i (by simp; omega)
      rw [hks, hok] at this; cases this
    have hkl : ks.length = rows.length := by rw [← hks, List.length_map]
    rw [hks]
    repeat (first | refine st_end rfl ?_ | ((first | refine st1 fun K k => ?_ | refine st2 fun K k => ?_ | refine st3 rfl fun K k => ?_ | refine st4 fun K k => ?_); simp only [go_sem]; refine k _ _ _ _ _ _ ?_; clear k K))
    refine W.loopP (fun a : Nat => ⟨[(1, .ep [.s name, strsD cols, rowsV rows]), (5, .v (.int .i64 i)), (6, .v (.int .i64 (kind1 ks))), (7, .v (.int .i64 a))], [], 0, []⟩)
      (fun a => a ≤ rows.length ∧ ∀ x ∈ ks.take a, x = 0 ∨ x = kind1 ks) (fun a => rows.length - a) 0 ⟨by omega, by simp⟩ (Into.le ?_ trivial (Nat.le_refl _) rfl) fun a ha => W.code (N := 66) [1] hN ?_
    · simp only [go_sem]
      exact LeD.refl _
    repeat (first | refine st_end rfl ?_ | ((first | refine st1 fun K k => ?_ | refine st2 fun K k => ?_ | refine st3 rfl fun K k => ?_ | refine st4 fun K k => ?_); simp only [go_sem]; refine k _ _ _ _ _ _ ?_; clear k K))
    refine st_cond fun A B a b => ?_; simp only [go_sem]; refine ⟨fun g => a ?_, fun g => b ?_⟩ <;> clear a b A B
    · obtain ⟨r, hr⟩ := getS (l := rows) (i := a) (by omega)
      obtain ⟨v, hv⟩ := getS (l := r) (i := i) (by rw [hlen r (List.mem_of_getElem? hr)]; omega)
      have hk : ks[a]? = some v.kind := by rw [← hks, List.getElem?_map, hr]; simp [kindAt, hv]
      have e5 : ks.take (a + 1) = ks.take a ++ [v.kind] := by rw [List.take_add_one, hk]; rfl
      obtain ⟨kd, s, dn, ds, num, c', r'⟩ := v
      simp only [Val.kind] at hk e5
      have w5 : IntKind.wrap .i64 ((a : Int) + 1) = ((a + 1 : Nat) : Int) := wrapTo (by omega)
      by_cases z : kd = 0
      · have z' : (kd != 0) = false := by simpa using z
        repeat (first | refine st_end rfl ?_ | ((first | refine st1 fun K k => ?_ | refine st2 fun K k => ?_ | refine st3 rfl fun K k => ?_ | refine st4 fun K k => ?_); simp only [go_sem, hr, hv, encV, z', w5]; refine k _ _ _ _ _ _ ?_; clear k K))
        refine ⟨a + 1, ⟨by omega, ?_⟩, by omega, Into.le ?_ trivial (Nat.le_refl _) rfl⟩
        · rw [e5]
          intro x hx
          rcases List.mem_append.1 hx with hx | hx
          · exact ha.2 x hx
          · simp at hx; rw [hx]; exact .inl z
        · simp only [go_sem]
      · have z' : (kd != 0) = true := by simpa using z
        by_cases z2 : kd = kind1 ks
        · have z2' : (kd != kind1 ks) = false := by simpa using z2
          repeat (first | refine st_end rfl ?_ | ((first | refine st1 fun K k => ?_ | refine st2 fun K k => ?_ | refine st3 rfl fun K k => ?_ | refine st4 fun K k => ?_); simp only [go_sem, hr, hv, encV, z', z2', w5]; refine k _ _ _ _ _ _ ?_; clear k K))
          refine ⟨a + 1, ⟨by omega, ?_⟩, by omega, Into.le ?_ trivial (Nat.le_refl _) rfl⟩
          · rw [e5]
            intro x hx
            rcases List.mem_append.1 hx with hx | hx
            · exact ha.2 x hx
            · simp at hx; rw [hx]; exact .inr z2
          · simp only [go_sem]
        · have z2' : (kd != kind1 ks) = true := by simpa using z2
          repeat (first | refine st_end rfl ?_ | ((first | refine st1 fun K k => ?_ | refine st2 fun K k => ?_ | refine st3 rfl fun K k => ?_ | refine st4 fun K k => ?_); simp only [go_sem, hr, hv, encV, z', z2']; refine k _ _ _ _ _ _ ?_; clear k K))
          refine iq Into.refl (iq Into.refl (Done.t1 ?_))
          have hok : okCol ks = false := by
            rw [← Bool.not_eq_true, okCol, List.all_eq_true]
            intro h
            have := h kd (List.mem_of_getElem? hk)
            simp [z, z2] at this
          simp only [go_sem, hno hok]
    · obtain rfl : a = rows.length := by omega
      have h2 := ha.2
      rw [List.take_of_length_le (by omega)] at h2
      have hok : okCol ks = true := by
        rw [okCol, List.all_eq_true]
        intro x hx
        rcases h2 x hx with h | h
        · simp [h]
        · simp [← h]
      have w5 : IntKind.wrap .i64 ((i : Int) + 1) = ((i + 1 : Nat) : Int) := wrapTo (by omega)
      refine iq Into.refl ?_
      repeat (first | refine st_end rfl ?_ | ((first | refine st1 fun K k => ?_ | refine st2 fun K k => ?_ | refine st3 rfl fun K k => ?_ | refine st4 fun K k => ?_); simp only [go_sem, w5]; refine k _ _ _ _ _ _ ?_; clear k K))
      refine ⟨i + 1, ⟨by omega, fun c hc => ?_⟩, by omega, Into.le ?_ trivial (Nat.le_refl _) rfl⟩
      · by_cases e : c = i
        · rw [e, hks]; exact hok
        · exact hi.2 c (by omega)
      · simp only [go_sem]
  · obtain rfl : i = cols.length := by omega
    refine iq Into.refl ?_
    repeat (first | refine st_end rfl ?_ | ((first | refine st1 fun K k => ?_ | refine st2 fun K k => ?_ | refine st3 rfl fun K k => ?_ | refine st4 fun K k => ?_); simp only [go_sem]; refine k _ _ _ _ _ _ ?_; clear k K))
    refine Done.t1 ?_
    have : ((List.range cols.length).all fun c => okCol (rows.map (kindAt c))) = true := by
      rw [List.all_eq_true]
      intro c hc
      exact hi.2 c (by simpa using hc)
    simp only [go_sem, this]
end Go.Proofs.YtjgooecohepkoaaGreatDoor
namespace Go.Proofs.YtjgooecohepkoaaGreatDoor
open Go Go.Abs
set_option linter.unusedSimpArgs false
set_option maxHeartbeats 2000000
/-! ### Copies -/
/-- Nothing in a value is too long to be copied. -/
inductive Small : Val → Prop where
  | mk (k : Int) (s : List UInt8) (dn ds n : Int) (c : List (List UInt8)) (r : List (List Val)) (h1 : c.length ≤ 1000000) (h2 : r.length ≤ 1000000) (h3 : ∀ row ∈ r, row.length ≤ 1000000) (h4 : ∀ row ∈ r, ∀ v ∈ row, Small v) : Small (.mk k s dn ds n c r)
theorem subL_encV (θ : Nat → Option Nat) (v : Val) : subL θ (encV v) = encV v := by
  obtain ⟨kd, s, dn, ds, num, cols, rows⟩ := v
  simp only [encV, subL, subD, strsD]
theorem f98_nil (a : Option Addr) (c : Nat) (hc : c ≤ maxLen) : FnOK sys 98 [.v (.slice a 0 c)] [] (strsD []) [] := by
  refine FnOK.intro Tryz.f98 (by kernel_rfl) rfl rfl [.tmp 2] rfl 0 rfl (Nat.le_of_ble_eq_true rfl) rfl rfl fun E hN h0 => ?_
  cases a with
  | none =>
    refine W.code (N := 8) [] hN ?_
    repeat (first | refine st_end rfl ?_ | ((first | refine st1 fun K k => ?_ | refine st2 fun K k => ?_ | refine st3 rfl fun K k => ?_ | refine st4 fun K k => ?_); simp only [go_sem]; refine k _ _ _ _ _ _ ?_; clear k K))
    refine Done.mk (.inr rfl) (Into.le (st' := ⟨[(2, strsD [])], [], 0, []⟩) ?_ trivial (Nat.le_refl _) rfl) rfl [] 0 rfl ?_ trivial rfl
    · simp only [go_sem]
      exact LeD.nil 1
    · simp only [go_sem]
  | some ad =>
    have b1 : (0 : Nat) ≤ maxLen := Nat.zero_le _
    refine W.seqK fun K hK => W.code (N := 8) [] hN ?_
    repeat (first | refine st_end rfl ?_ | ((first | refine st1 fun K k => ?_ | refine st2 fun K k => ?_ | refine st3 rfl fun K k => ?_ | refine st4 fun K k => ?_); simp only [go_sem]; refine k _ _ _ _ _ _ ?_; clear k K))
    refine hK _ ?_; clear hK K
    refine W.seqK fun K hK => W.code (N := 8) [] hN ?_
    repeat (first | refine st_end rfl ?_ | ((first | refine st1 fun K k => ?_ | refine st2 fun K k => ?_ | refine st3 rfl fun K k => ?_ | refine st4 fun K k => ?_); simp only [go_sem]; refine k _ _ _ _ _ _ ?_; clear k K))
    refine hK _ (W.into (Into.le (st' := ⟨[(0, .sl [] 1)], [], 0, []⟩) ?_ trivial (Nat.le_refl _) rfl) ?_); clear hK K
    · simp only [go_sem]
      intro w g x hx
      simp only [Rep] at hx ⊢
      exact ⟨some ad, c, hx, Nat.zero_le _, hc, by simp, by simp⟩
    refine W.seqK fun K hK => W.code (N := 8) [] hN ?_
    repeat (first | refine st_end rfl ?_ | ((first | refine st1 fun K k => ?_ | refine st2 fun K k => ?_ | refine st3 rfl fun K k => ?_ | refine st4 fun K k => ?_); simp only [go_sem, b1, Nat.zero_mul, Nat.zero_le]; refine k _ _ _ _ _ _ ?_; clear k K))
    refine hK _ (W.into (Into.frz [1] ?_) ?_); clear hK K
    · simp only [go_sem]
    refine W.code (N := 8) [] hN ?_
    simp only [go_sem]
    repeat (first | refine st_end rfl ?_ | ((first | refine st1 fun K k => ?_ | refine st2 fun K k => ?_ | refine st3 rfl fun K k => ?_ | refine st4 fun K k => ?_); simp only [go_sem]; refine k _ _ _ _ _ _ ?_; clear k K))
    refine Done.t1 ?_
    simp only [go_sem]
theorem f98_ok (cols : List (List UInt8)) (hl : cols.length ≤ 1000000) : FnOK sys 98 [strsD cols] [] (strsD cols) [] := by
  cases cols with
  | nil =>
    refine ⟨(f98_nil none 0 (Nat.zero_le _)).1, fun E w g vs hr hvs hs hf => ?_⟩
    obtain ⟨x, r, rfl, hx, hr'⟩ := RepL.cons_iff.1 hvs
    have hx' := hx
    simp only [strsD, List.map_nil, Rep, List.length_nil] at hx
    obtain ⟨a, c, rfl, _, hc, _⟩ := hx
    exact (f98_nil a c hc).2 E w g _ hr (RepL.cons_iff.2 ⟨_, r, rfl, by simp [Rep], hr'⟩) hs hf
  | cons c0 r =>
    have b1 : r.length + 1 ≤ maxLen := by simp at hl; unfold maxLen; omega
    have b2 : (r.length + 1) * 16 ≤ 140737488355328 := by simp at hl; omega
    refine FnOK.intro Tryz.f98 (by kernel_rfl) rfl rfl [.tmp 2] rfl 0 rfl (Nat.le_of_ble_eq_true rfl) rfl rfl fun E hN h0 => ?_
    refine W.seqK fun K hK => W.code (N := 8) [] hN ?_
    repeat (first | refine st_end rfl ?_ | ((first | refine st1 fun K k => ?_ | refine st2 fun K k => ?_ | refine st3 rfl fun K k => ?_ | refine st4 fun K k => ?_); simp only [go_sem]; refine k _ _ _ _ _ _ ?_; clear k K))
    refine hK _ ?_; clear hK K
    refine W.seqK fun K hK => W.code (N := 8) [] hN ?_
    repeat (first | refine st_end rfl ?_ | ((first | refine st1 fun K k => ?_ | refine st2 fun K k => ?_ | refine st3 rfl fun K k => ?_ | refine st4 fun K k => ?_); simp only [go_sem]; refine k _ _ _ _ _ _ ?_; clear k K))
    refine hK _ ?_; clear hK K
    refine W.seqK fun K hK => W.code (N := 8) [] hN ?_
    repeat (first | refine st_end rfl ?_ | ((first | refine st1 fun K k => ?_ | refine st2 fun K k => ?_ | refine st3 rfl fun K k => ?_ | refine st4 fun K k => ?_); simp only [go_sem]; refine k _ _ _ _ _ _ ?_; clear k K))
    (first | refine st1 fun K k => ?_ | refine st3 rfl fun K k => ?_); simp only [go_sem, b1, b2]
    refine ⟨fun x hx => by obtain ⟨q, _, rfl⟩ := List.mem_map.1 hx; rfl, ?_⟩
    refine k _ _ _ _ _ _ ?_; clear k K
    repeat (first | refine st_end rfl ?_ | ((first | refine st1 fun K k => ?_ | refine st2 fun K k => ?_ | refine st3 rfl fun K k => ?_ | refine st4 fun K k => ?_); simp only [go_sem]; refine k _ _ _ _ _ _ ?_; clear k K))
    refine hK _ (W.into (Into.frz [1] ?_) ?_); clear hK K
    · simp only [go_sem]
      intro e he
      obtain ⟨q, _, rfl⟩ := List.mem_map.1 he; rfl
    refine W.code (N := 8) [] hN ?_
    simp only [go_sem]
    repeat (first | refine st_end rfl ?_ | ((first | refine st1 fun K k => ?_ | refine st2 fun K k => ?_ | refine st3 rfl fun K k => ?_ | refine st4 fun K k => ?_); simp only [go_sem]; refine k _ _ _ _ _ _ ?_; clear k K))
    refine Done.t1 ?_
    simp only [go_sem]
/-- value.Copy. -/
theorem f55_ok : ∀ (v : Val), Small v → FnOK sys 55 [.agg (encV v)] [] (.agg (encV v)) [] := by
  intro v hv
  induction hv with
  | mk kd s dn ds num cols rows h1 h2 h3 h4 ih =>
  refine FnOK.intro Tryz.f55 (by kernel_rfl) rfl rfl [.cell 2 33] rfl 0 rfl (Nat.le_of_ble_eq_true rfl) rfl rfl fun E hN h0 => W.code (N := 42) [31, 37] hN ?_
  have hrl : encRs rows = rows.map fun r => [rowV r] := by rw [encRs_map, List.map_map]; rfl
  simp only [encV, hrl]
  repeat (first | refine st_end rfl ?_ | ((first | refine st1 fun K k => ?_ | refine st2 fun K k => ?_ | refine st3 rfl fun K k => ?_ | refine st4 fun K k => ?_); simp only [go_sem]; refine k _ _ _ _ _ _ ?_; clear k K))
  (first | refine st1 fun K k => ?_ | refine st3 rfl fun K k => ?_); simp only [go_sem]; refine callP (f98_ok cols h1) ?_; refine k _ _ _ _ _ _ ?_; clear k K
  repeat (first | refine st_end rfl ?_ | ((first | refine st1 fun K k => ?_ | refine st2 fun K k => ?_ | refine st3 rfl fun K k => ?_ | refine st4 fun K k => ?_); simp only [go_sem]; refine k _ _ _ _ _ _ ?_; clear k K))
  refine W.loopP (fun i : Nat => ⟨[(1, .ref 0 0), (2, .ref 1 0), (16, rowsV rows), (17, .v (.int .i64 rows.length)), (18, .v (.int .i64 i))],
      [(0, .box [.v (.int .i64 kd), .s s, .v (.int .i64 dn), .v (.int .i64 ds), .v (.int .i64 num), strsD cols, .own 2 i]), (1, .box [.v (.int .i64 0), .s [], .v (.int .i64 0), .v (.int .i64 0), .v (.int .i64 0), .v (.slice none 0 0), .v (.slice none 0 0)]), (2, .row 45 1 ((rows.take i).map fun r => [rowV r]))], 3, []⟩)
    (fun i => i ≤ rows.length) (fun i => rows.length - i) 0 (Nat.zero_le _) ((Into.nilCell 0 6 45 1 rfl rfl).trans (Into.le ?_ ?_ (Nat.le_refl _) rfl)) fun i hi => W.code (N := 42) [31, 37] hN ?_
  · simp only [go_sem]
    exact LeD.refl _
  · simp only [go_sem]
  repeat (first | refine st_end rfl ?_ | ((first | refine st1 fun K k => ?_ | refine st2 fun K k => ?_ | refine st3 rfl fun K k => ?_ | refine st4 fun K k => ?_); simp only [go_sem]; refine k _ _ _ _ _ _ ?_; clear k K))
  refine st_cond fun A B a b => ?_; simp only [go_sem]; refine ⟨fun g => a ?_, fun g => b ?_⟩ <;> clear a b A B
  · obtain ⟨r, hr⟩ := getS (l := rows) (i := i) (by omega)
    have hrm := List.mem_of_getElem? hr
    repeat (first | refine st_end rfl ?_ | ((first | refine st1 fun K k => ?_ | refine st2 fun K k => ?_ | refine st3 rfl fun K k => ?_ | refine st4 fun K k => ?_); simp only [go_sem, hr]; refine k _ _ _ _ _ _ ?_; clear k K))
    refine W.loopP (fun j : Nat => ⟨[(1, .ref 0 0), (2, .ref 1 0), (6, .own 3 j), (16, rowsV rows), (17, .v (.int .i64 rows.length)), (18, .v (.int .i64 i)), (22, rowV r), (23, .v (.int .i64 r.length)), (24, .v (.int .i64 j))],
        [(0, .box [.v (.int .i64 kd), .s s, .v (.int .i64 dn), .v (.int .i64 ds), .v (.int .i64 num), strsD cols, .own 2 i]), (1, .box [.v (.int .i64 0), .s [], .v (.int .i64 0), .v (.int .i64 0), .v (.int .i64 0), .v (.slice none 0 0), .v (.slice none 0 0)]), (2, .row 45 1 ((rows.take i).map fun r => [rowV r])),
          (3, .row 33 7 ((r.take j).map encV))], 4, []⟩)
      (fun j => j ≤ r.length) (fun j => r.length - j) 0 (Nat.zero_le _) ((Into.nilRow 6 33 7 rfl).trans (Into.le ?_ ?_ (Nat.le_refl _) rfl)) fun j hj => W.code (N := 42) [31, 37] hN ?_
    · simp only [go_sem]
      exact LeD.refl _
    · simp only [go_sem]
    repeat (first | refine st_end rfl ?_ | ((first | refine st1 fun K k => ?_ | refine st2 fun K k => ?_ | refine st3 rfl fun K k => ?_ | refine st4 fun K k => ?_); simp only [go_sem]; refine k _ _ _ _ _ _ ?_; clear k K))
    refine st_cond fun A B a b => ?_; simp only [go_sem]; refine ⟨fun g => a ?_, fun g => b ?_⟩ <;> clear a b A B
    · obtain ⟨v, hvj⟩ := getS (l := r) (i := j) (by omega)
      have hv := ih r hrm v (List.mem_of_getElem? hvj)
      have e5 : r.take (j + 1) = r.take j ++ [v] := by rw [List.take_add_one, hvj]; rfl
      obtain ⟨kd', s', dn', ds', num', c', r'⟩ := v
      simp only [encV] at hv
      repeat (first | refine st_end rfl ?_ | ((first | refine st1 fun K k => ?_ | refine st2 fun K k => ?_ | refine st3 rfl fun K k => ?_ | refine st4 fun K k => ?_); simp only [go_sem, hvj, encV]; refine k _ _ _ _ _ _ ?_; clear k K))
      (first | refine st1 fun K k => ?_ | refine st3 rfl fun K k => ?_); simp only [go_sem]; refine callP (hv) ?_; refine k _ _ _ _ _ _ ?_; clear k K
      have b0 := h3 r hrm
      have b1 : j + 1 ≤ maxLen := by unfold maxLen; omega
      have b2 : (j + 1) * 96 ≤ 140737488355328 := by omega
      have b3 : min j r.length = j := by omega
      have w5 : IntKind.wrap .i64 ((j : Int) + 1) = ((j + 1 : Nat) : Int) := wrapTo (by omega)
      repeat (first | refine st_end rfl ?_ | ((first | refine st1 fun K k => ?_ | refine st2 fun K k => ?_ | refine st3 rfl fun K k => ?_ | refine st4 fun K k => ?_); simp only [go_sem, b1, b2, b3, w5, List.length_take, encV]; refine k _ _ _ _ _ _ ?_; clear k K))
      refine ⟨j + 1, by omega, by omega, (Into.ren h0 [(0, 0), (1, 1), (2, 2), (3, 5)] 4 rfl).trans (Into.le ?_ ?_ (Nat.le_refl _) rfl)⟩
      · simp only [go_sem, newOf]
      · simp only [go_sem, newOf, e5, encV, subL_encV]
    · obtain rfl : j = r.length := by omega
      have b1 : i + 1 ≤ maxLen := by unfold maxLen; omega
      have b2 : (i + 1) * 24 ≤ 140737488355328 := by omega
      have b3 : min i rows.length = i := by omega
      have w5 : IntKind.wrap .i64 ((i : Int) + 1) = ((i + 1 : Nat) : Int) := wrapTo (by omega)
      have e5 : rows.take (i + 1) = rows.take i ++ [r] := by rw [List.take_add_one, hr]; rfl
      refine iq (Into.frz [3] ?_) ?_
      · simp only [go_sem]
        intro e he
        obtain ⟨q, _, rfl⟩ := List.mem_map.1 he
        obtain ⟨kd', s', dn', ds', num', c', r'⟩ := q
        rfl
      simp only [go_sem, List.take_length, List.length_map]
      repeat (first | refine st_end rfl ?_ | ((first | refine st1 fun K k => ?_ | refine st2 fun K k => ?_ | refine st3 rfl fun K k => ?_ | refine st4 fun K k => ?_); simp only [go_sem, b1, b2, b3, w5, List.length_take]; refine k _ _ _ _ _ _ ?_; clear k K))
      refine ⟨i + 1, by omega, by omega, (Into.ren h0 [(0, 0), (1, 1), (2, 4)] 3 rfl).trans (Into.le ?_ ?_ (Nat.le_refl _) rfl)⟩
      · simp only [go_sem, newOf]
      · simp only [go_sem, newOf, e5]
  · obtain rfl : i = rows.length := by omega
    refine iq (Into.frz [2] ?_) ?_
    · simp only [go_sem]
      intro e he
      obtain ⟨q, _, rfl⟩ := List.mem_map.1 he; rfl
    simp only [go_sem, List.take_length, List.length_map]
    repeat (first | refine st_end rfl ?_ | ((first | refine st1 fun K k => ?_ | refine st2 fun K k => ?_ | refine st3 rfl fun K k => ?_ | refine st4 fun K k => ?_); simp only [go_sem]; refine k _ _ _ _ _ _ ?_; clear k K))
    refine Done.mk (.inr rfl) Into.refl rfl [] 0 rfl ?_ trivial rfl
    simp only [go_sem]
end Go.Proofs.YtjgooecohepkoaaGreatDoor
namespace Go.Proofs.YtjgooecohepkoaaGreatDoor
open Go Go.Abs
set_option linter.unusedSimpArgs false
set_option maxHeartbeats 2000000
/-! ### Natural numbers as bytes -/
def valB (l : List UInt8) : Nat := l.foldl (fun a b => a * 256 + b.toNat) 0
def natB (n : Nat) : List UInt8 := if n = 0 then [] else natB (n / 256) ++ [UInt8.ofNat (n % 256)]
termination_by n
decreasing_by omega
def canon : List UInt8 → List UInt8
  | [] => []
  | c :: r => if c.toNat = 0 then canon r else c :: r
theorem natB_zero : natB 0 = [] := by rw [natB]; rfl
theorem natB_pos {n : Nat} (h : n ≠ 0) : natB n = natB (n / 256) ++ [UInt8.ofNat (n % 256)] := by rw [natB, if_neg h]
theorem valB_snoc (l : List UInt8) (c : UInt8) : valB (l ++ [c]) = valB l * 256 + c.toNat := by simp [valB]
theorem valB_natB : ∀ (n : Nat), valB (natB n) = n := by
  intro n
  induction n using Nat.strongRecOn with
  | _ n ih =>
    by_cases h : n = 0
    · subst h; rw [natB_zero]; rfl
    · rw [natB_pos h, valB_snoc, ih (n / 256) (by omega)]
      have : (UInt8.ofNat (n % 256)).toNat = n % 256 := by simp
      rw [this]; omega
/-- No zero in front. -/
def Lead : List UInt8 → Prop
  | [] => True
  | c :: _ => c.toNat ≠ 0
theorem canon_lead {l : List UInt8} (h : Lead l) : canon l = l := by
  cases l with
  | nil => rfl
  | cons c r => simp only [Lead] at h; simp [canon, h]
theorem lead_canon : ∀ (l : List UInt8), Lead (canon l)
  | [] => trivial
  | c :: r => by
    by_cases h : c.toNat = 0
    · simp only [canon, if_pos h]; exact lead_canon r
    · simp only [canon, if_neg h]; exact h
theorem lead_natB : ∀ (n : Nat), Lead (natB n) := by
  intro n
  induction n using Nat.strongRecOn with
  | _ n ih =>
    by_cases h : n = 0
    · subst h; rw [natB_zero]; trivial
    · rw [natB_pos h]
      by_cases h2 : n / 256 = 0
      · rw [h2, natB_zero]
        simp [Lead]; omega
      · have := ih (n / 256) (by omega)
        rw [natB_pos h2] at this ⊢
        cases hq : natB (n / 256 / 256) with
        | nil => rw [hq] at this; simpa [Lead] using this
        | cons c r => rw [hq] at this; simpa [Lead] using this
theorem canon_natB (n : Nat) : canon (natB n) = natB n := canon_lead (lead_natB n)
theorem valB_canon : ∀ (l : List UInt8), valB (canon l) = valB l
  | [] => rfl
  | c :: r => by
    by_cases h : c.toNat = 0
    · simp only [canon, if_pos h]
      rw [valB_canon r]
      simp [valB, h]
    · simp only [canon, if_neg h]
/-- Bytes without a zero in front are those of their number. -/
theorem natB_valB : ∀ (l : List UInt8), Lead l → natB (valB l) = l := by
  have key : ∀ (r l : List UInt8), l = r.reverse → Lead l → natB (valB l) = l := by
    intro r
    induction r with
    | nil => intro l h _; subst h; exact natB_zero
    | cons c r ih =>
      intro l h hl
      subst h
      rw [List.reverse_cons] at hl ⊢
      rw [valB_snoc]
      have hc : c.toNat < 256 := c.toNat_lt
      cases hr : r.reverse with
      | nil =>
        rw [hr] at hl
        simp only [List.nil_append, Lead] at hl
        simp only [valB, List.foldl_nil, Nat.zero_mul, Nat.zero_add, List.nil_append]
        rw [natB_pos hl, Nat.div_eq_of_lt hc, natB_zero, Nat.mod_eq_of_lt hc]
        simp
      | cons d q =>
        rw [hr] at hl
        have hl' : Lead (r.reverse) := by rw [hr]; simpa [Lead] using hl
        have h1 := ih _ rfl hl'
        have hne : valB r.reverse ≠ 0 := by
          intro h0
          rw [h0, natB_zero] at h1
          rw [hr] at h1; cases h1
        rw [← hr]
        have h2 : valB r.reverse * 256 + c.toNat ≠ 0 := by omega
        rw [natB_pos h2]
        have e1 : (valB r.reverse * 256 + c.toNat) / 256 = valB r.reverse := by omega
        have e2 : (valB r.reverse * 256 + c.toNat) % 256 = c.toNat := by omega
        rw [e1, e2, h1]
        simp
  intro l hl
  exact key l.reverse l (by simp) hl
theorem canon_eq (l : List UInt8) : canon l = natB (valB l) := by
  rw [← valB_canon, natB_valB _ (lead_canon l)]
theorem natB_len : ∀ (k n : Nat), n < 256 ^ k → (natB n).length ≤ k
  | 0, n, h => by
    have : n = 0 := by simpa using h
    subst this; rw [natB_zero]; simp
  | k + 1, n, h => by
    by_cases h0 : n = 0
    · subst h0; rw [natB_zero]; simp
    · rw [natB_pos h0]
      have := natB_len k (n / 256) (by rw [Nat.pow_succ] at h; omega)
      simp; exact this
theorem natB_len_ge : ∀ (k n : Nat), 256 ^ k ≤ n → k < (natB n).length
  | 0, n, h => by
    have h0 : n ≠ 0 := by simp at h; omega
    rw [natB_pos h0]; simp
  | k + 1, n, h => by
    have h0 : n ≠ 0 := by have : 0 < 256 ^ (k + 1) := Nat.pow_pos (by omega); omega
    rw [natB_pos h0]
    have := natB_len_ge k (n / 256) (by rw [Nat.pow_succ] at h; omega)
    simp; exact this
theorem natB_inj {a b : Nat} (h : natB a = natB b) : a = b := by rw [← valB_natB a, h, valB_natB]
theorem natB_nil {a : Nat} (h : natB a = []) : a = 0 := by rw [← valB_natB a, h]; rfl
theorem canon_drop {s : List UInt8} {k : Nat} {c : UInt8} (h : s[k]? = some c) : canon (s.drop k) = if c.toNat = 0 then canon (s.drop (k + 1)) else s.drop k := by
  rw [drop_at h]; rfl
theorem f205_ok (s : List UInt8) (hs : s.length ≤ 1000000) : FnOK sys 205 [.s s] [] (.s (canon s)) [] := by
  refine FnOK.intro Tryz.f205 (by kernel_rfl) rfl rfl [.tmp 2] rfl 0 rfl (Nat.le_of_ble_eq_true rfl) rfl rfl fun E hN h0 => W.code (N := 19) [] hN ?_
  repeat (first | refine st_end rfl ?_ | ((first | refine st1 fun K k => ?_ | refine st2 fun K k => ?_ | refine st3 rfl fun K k => ?_ | refine st4 fun K k => ?_); simp only [go_sem]; refine k _ _ _ _ _ _ ?_; clear k K))
  refine W.loopP (fun i : Nat => ⟨[(0, .s s), (3, .v (.int .i64 i))], [], 0, []⟩)
    (fun i => i ≤ s.length ∧ canon s = canon (s.drop i)) (fun i => s.length - i) 0 ⟨by omega, rfl⟩ (Into.le ?_ trivial (Nat.le_refl _) rfl) fun i hi => W.code (N := 19) [] hN ?_
  · simp only [go_sem]
    exact LeD.refl _
  by_cases hl : (i : Int) < s.length
  · obtain ⟨c, hc⟩ := getS (l := s) (i := i) (by omega)
    have hd := canon_drop hc
    by_cases h1 : c.toNat = 0
    · have h1' : ((c.toNat : Int) == 0) = true := by simp [h1]
      have w5 : IntKind.wrap .i64 ((i : Int) + 1) = ((i + 1 : Nat) : Int) := wrapTo (by omega)
      repeat (first | refine st_end rfl ?_ | ((first | refine st1 fun K k => ?_ | refine st2 fun K k => ?_ | refine st3 rfl fun K k => ?_ | refine st4 fun K k => ?_); simp only [go_sem, hl, decide_true, hc, h1', w5]; refine k _ _ _ _ _ _ ?_; clear k K))
      refine ⟨i + 1, ⟨by omega, by rw [hi.2, hd, if_pos h1]⟩, by omega, Into.le ?_ trivial (Nat.le_refl _) rfl⟩
      simp only [go_sem]
    · have h1' : ((c.toNat : Int) == 0) = false := by simpa using h1
      repeat (first | refine st_end rfl ?_ | ((first | refine st1 fun K k => ?_ | refine st2 fun K k => ?_ | refine st3 rfl fun K k => ?_ | refine st4 fun K k => ?_); simp only [go_sem, hl, decide_true, hc, h1']; refine k _ _ _ _ _ _ ?_; clear k K))
      refine iq Into.refl ?_
      have hle : (i : Int) ≤ s.length := by omega
      repeat (first | refine st_end rfl ?_ | ((first | refine st1 fun K k => ?_ | refine st2 fun K k => ?_ | refine st3 rfl fun K k => ?_ | refine st4 fun K k => ?_); simp only [go_sem, hle, Int.le_refl]; refine k _ _ _ _ _ _ ?_; clear k K))
      refine Done.t1 ?_
      simp only [go_sem, hi.2, hd, if_neg h1, List.take_length]
  · obtain rfl : i = s.length := by omega
    repeat (first | refine st_end rfl ?_ | ((first | refine st1 fun K k => ?_ | refine st2 fun K k => ?_ | refine st3 rfl fun K k => ?_ | refine st4 fun K k => ?_); simp only [go_sem, hl, decide_false]; refine k _ _ _ _ _ _ ?_; clear k K))
    refine iq Into.refl ?_
    repeat (first | refine st_end rfl ?_ | ((first | refine st1 fun K k => ?_ | refine st2 fun K k => ?_ | refine st3 rfl fun K k => ?_ | refine st4 fun K k => ?_); simp only [go_sem, Int.le_refl]; refine k _ _ _ _ _ _ ?_; clear k K))
    refine Done.t1 ?_
    simp only [go_sem, hi.2, List.take_length]
    rw [List.drop_length]; rfl
end Go.Proofs.YtjgooecohepkoaaGreatDoor
namespace Go.Proofs.YtjgooecohepkoaaGreatDoor
open Go Go.Abs
set_option linter.unusedSimpArgs false
set_option maxHeartbeats 2000000
theorem shiftByte (m j : Nat) (hj : j < 8) : IntKind.wrap .u8 (Int.fdiv (m : Int) (2 ^ (min (56 - 8 * (j : Int)).toNat 64))) = ((m / 256 ^ (7 - j) % 256 : Nat) : Int) := by
  have key : ∀ d : Nat, 0 < d → IntKind.wrap .u8 (Int.fdiv (m : Int) (d : Int)) = ((m / d % 256 : Nat) : Int) := by
    intro d hd
    rw [Int.fdiv_eq_ediv_of_nonneg _ (by omega)]
    simp only [IntKind.wrap, IntKind.bits, IntKind.signed, Bool.false_and]
    rw [if_neg (by simp)]
    rw [← Int.natCast_ediv]
    omega
  rcases j with _ | _ | _ | _ | _ | _ | _ | _ | j
  · exact key (2 ^ 56) (by decide)
  · exact key (2 ^ 48) (by decide)
  · exact key (2 ^ 40) (by decide)
  · exact key (2 ^ 32) (by decide)
  · exact key (2 ^ 24) (by decide)
  · exact key (2 ^ 16) (by decide)
  · exact key (2 ^ 8) (by decide)
  · exact key (2 ^ 0) (by decide)
  · omega
theorem byte_at (x : Nat) : [D.v (.int .u8 ((x % 256 : Nat) : Int))] = byteD (UInt8.ofNat (x % 256)) := by
  have : (UInt8.ofNat (x % 256)).toNat = x % 256 := by simp
  simp only [byteD, this]
theorem f168_ok (n : Int) (hn : n ≤ 9223372036854775807) : FnOK sys 168 [.v (.int .i64 n)] [] (.s (natB n.toNat)) [] := by
  refine FnOK.intro Tryz.f168 (by kernel_rfl) rfl rfl [.tmp 2] rfl 0 rfl (Nat.le_of_ble_eq_true rfl) rfl rfl fun E hN h0 => W.code (N := 23) [18] hN ?_
  repeat (first | refine st_end rfl ?_ | ((first | refine st1 fun K k => ?_ | refine st2 fun K k => ?_ | refine st3 rfl fun K k => ?_ | refine st4 fun K k => ?_); simp only [go_sem]; refine k _ _ _ _ _ _ ?_; clear k K))
  refine W.loopP (fun p : Nat × List UInt8 => ⟨[(0, .v (.int .i64 n)), (3, .own 0 p.1), (4, .v (.int .i64 (56 - 8 * (p.1 : Int))))], [(0, .row 5 1 (p.2.map byteD))], 1, []⟩)
    (fun p => p.1 ≤ 8 ∧ p.2.length = p.1 ∧ (0 < n → valB p.2 = n.toNat / 256 ^ (8 - p.1)) ∧ (n ≤ 0 → p.1 = 0)) (fun p => 8 - p.1) (0, []) ?_ ((Into.nilRow 3 5 1 rfl).trans (Into.le ?_ ?_ (Nat.le_refl _) rfl)) fun p hp => W.code (N := 23) [18] hN ?_
  · refine ⟨by omega, rfl, fun h => ?_, fun _ => rfl⟩
    simp only [valB, List.foldl_nil]
    rw [Nat.div_eq_of_lt]; omega
  · simp only [go_sem]
    exact LeD.refl _
  · simp only [go_sem]
  obtain ⟨j, bs⟩ := p
  obtain ⟨p1, p2, p3, p4⟩ := hp
  simp only at p1 p2 p3 p4
  by_cases hpos : 0 < n
  · by_cases hj : j < 8
    · have c1 : (0 : Int) ≤ 56 - 8 * (j : Int) := by omega
      have hm : n = (n.toNat : Int) := by omega
      have hsh := shiftByte n.toNat j hj
      rw [← hm] at hsh
      have w5 : IntKind.wrap .i64 (56 - 8 * (j : Int) - 8) = 56 - 8 * ((j + 1 : Nat) : Int) := wrapTo (by omega)
      have b1 : j + 1 ≤ maxLen := by unfold maxLen; omega
      have b2 : (j + 1) * 1 ≤ 140737488355328 := by omega
      repeat (first | refine st_end rfl ?_ | ((first | refine st1 fun K k => ?_ | refine st2 fun K k => ?_ | refine st3 rfl fun K k => ?_ | refine st4 fun K k => ?_); simp only [go_sem, c1, hpos, ge_iff_le, decide_true, hsh, w5, b1, b2, p2]; refine k _ _ _ _ _ _ ?_; clear k K))
      have hby := byte_at (n.toNat / 256 ^ (7 - j))
      refine ⟨(j + 1, bs ++ [UInt8.ofNat (n.toNat / 256 ^ (7 - j) % 256)]), ⟨by simp only; omega, by simp [p2], fun _ => ?_, fun h => absurd h (by omega)⟩, by simp only; omega, (Into.ren h0 [(0, 1)] 1 rfl).trans (Into.le ?_ ?_ (Nat.le_refl _) rfl)⟩
      · simp only
        rw [valB_snoc, p3 hpos]
        have e1 : (UInt8.ofNat (n.toNat / 256 ^ (7 - j) % 256)).toNat = n.toNat / 256 ^ (7 - j) % 256 := by simp
        have e2 : 256 ^ (8 - j) = 256 ^ (7 - j) * 256 := by rw [← Nat.pow_succ]; congr 1; omega
        have e3 : 8 - (j + 1) = 7 - j := by omega
        rw [e1, e2, e3, ← Nat.div_div_eq_div_mul]
        omega
      · simp only [go_sem, newOf]
      · have hsub : ∀ (θ : Nat → Option Nat) (c : UInt8), subL θ (byteD c) = byteD c := fun _ _ => rfl
        simp only [go_sem, newOf, hby, List.map_append, hsub, hsh]
    · have hj8 : j = 8 := by omega
      subst hj8
      have hv : canon bs = natB n.toNat := by
        rw [canon_eq, p3 hpos]; simp
      have c1 : ¬ (0 : Int) ≤ 56 - 8 * ((8 : Nat) : Int) := by omega
      repeat (first | refine st_end rfl ?_ | ((first | refine st1 fun K k => ?_ | refine st2 fun K k => ?_ | refine st3 rfl fun K k => ?_ | refine st4 fun K k => ?_); simp only [go_sem, c1, ge_iff_le, decide_false]; refine k _ _ _ _ _ _ ?_; clear k K))
      refine iq (Into.frz [0] ?_) ?_
      · simp only [go_sem]
        intro e he
        obtain ⟨q, _, rfl⟩ := List.mem_map.1 he; rfl
      simp only [go_sem, p2, List.length_map]
      repeat (first | refine st_end rfl ?_ | ((first | refine st1 fun K k => ?_ | refine st2 fun K k => ?_ | refine st3 rfl fun K k => ?_ | refine st4 fun K k => ?_); simp only [go_sem]; refine k _ _ _ _ _ _ ?_; clear k K))
      (first | refine st1 fun K k => ?_ | refine st3 rfl fun K k => ?_); simp only [go_sem]; refine callP (f205_ok bs (by omega)) ?_; refine k _ _ _ _ _ _ ?_; clear k K
      repeat (first | refine st_end rfl ?_ | ((first | refine st1 fun K k => ?_ | refine st2 fun K k => ?_ | refine st3 rfl fun K k => ?_ | refine st4 fun K k => ?_); simp only [go_sem]; refine k _ _ _ _ _ _ ?_; clear k K))
      refine Done.t1 ?_
      simp only [go_sem, hv]
  · have hj0 : j = 0 := p4 (by omega)
    subst hj0
    have hb0 : bs = [] := List.eq_nil_of_length_eq_zero p2
    subst hb0
    have hz : n.toNat = 0 := by omega
    have c1 : (0 : Int) ≤ 56 - 8 * ((0 : Nat) : Int) := by omega
    repeat (first | refine st_end rfl ?_ | ((first | refine st1 fun K k => ?_ | refine st2 fun K k => ?_ | refine st3 rfl fun K k => ?_ | refine st4 fun K k => ?_); simp only [go_sem, c1, hpos, ge_iff_le, decide_false, decide_true]; refine k _ _ _ _ _ _ ?_; clear k K))
    refine iq (Into.frz [0] ?_) ?_
    · simp only [go_sem]
    simp only [go_sem]
    repeat (first | refine st_end rfl ?_ | ((first | refine st1 fun K k => ?_ | refine st2 fun K k => ?_ | refine st3 rfl fun K k => ?_ | refine st4 fun K k => ?_); simp only [go_sem, bytesD]; refine k _ _ _ _ _ _ ?_; clear k K))
    (first | refine st1 fun K k => ?_ | refine st3 rfl fun K k => ?_); simp only [go_sem]; refine callP (f205_ok [] (by simp)) ?_; refine k _ _ _ _ _ _ ?_; clear k K
    repeat (first | refine st_end rfl ?_ | ((first | refine st1 fun K k => ?_ | refine st2 fun K k => ?_ | refine st3 rfl fun K k => ?_ | refine st4 fun K k => ?_); simp only [go_sem]; refine k _ _ _ _ _ _ ?_; clear k K))
    refine Done.t1 ?_
    simp only [go_sem, hz, natB_zero, canon]
end Go.Proofs.YtjgooecohepkoaaGreatDoor
