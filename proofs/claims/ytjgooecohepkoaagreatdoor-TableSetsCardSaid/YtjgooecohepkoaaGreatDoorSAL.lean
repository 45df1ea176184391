/- Contracts of the functions that the statement reaches. -/
import Derived.Test.YtjgooecohepkoaaGreatDoorSAK
import Derived.Test.YtjgooecohepkoaaGreatDoorSAB
import Derived.Test.YtjgooecohepkoaaGreatDoorSAD
set_option linter.unusedVariables false
set_option linter.unusedSimpArgs false
namespace Go.Proofs.YtjgooecohepkoaaGreatDoor
open Go Go.Abs
set_option linter.unusedSimpArgs false
set_option maxHeartbeats 2000000
open Classical in
theorem f15_ok (name : List UInt8) (cols : List (List UInt8)) (rows : List (List Val)) (key : List UInt8) (v : Val) (col : List UInt8) (hn : name.length ≤ 1000000) (hcs : ∀ c ∈ cols, c.length ≤ 1000000) (hsm : ∀ row ∈ rows, ∀ v ∈ row, Small v) :
    FnOK sys 15 [.agg [.s name, strsD cols, rowsV rows], .s key, .agg (encV v), .s col] [] (.tup [.agg (encV (findT name cols rows key v col).1), .v (.int .i64 (findT name cols rows key v col).2)]) [] := by
  obtain ⟨kd, s, dn, ds, num, cs, rs⟩ := v
  have h19 := f19_ok name cols rows hn hcs
  cases hr : rightT name cols rows with
  | false =>
    have e : findT name cols rows key (.mk kd s dn ds num cs rs) col = (zeroV, 1) := by simp [findT, hr]
    rw [e]
    refine FnOK.leRes ?_ (zeroTup 1)
    rw [hr] at h19
    refine FnOK.intro Tryz.f15 (by kernel_rfl) rfl rfl [.cell 8 33, .cell 9 37] rfl 0 rfl (Nat.le_of_ble_eq_true rfl) rfl rfl fun E hN h0 => W.code (N := 62) [4, 6] hN ?_
    simp only [encV]
    repeat (first | refine st_end rfl ?_ | ((first | refine st1 fun K k => ?_ | refine st2 fun K k => ?_ | refine st3 rfl fun K k => ?_ | refine st4 fun K k => ?_); simp only [go_sem]; refine k _ _ _ _ _ _ ?_; clear k K))
    (first | refine st1 fun K k => ?_ | refine st3 rfl fun K k => ?_); simp only [go_sem]; refine callP (h19) ?_; refine k _ _ _ _ _ _ ?_; clear k K
    repeat (first | refine st_end rfl ?_ | ((first | refine st1 fun K k => ?_ | refine st2 fun K k => ?_ | refine st3 rfl fun K k => ?_ | refine st4 fun K k => ?_); simp only [go_sem]; refine k _ _ _ _ _ _ ?_; clear k K))
    refine Done.mk (.inr rfl) Into.refl ?_ [] 0 ?_ ?_ ?_ ?_
    · rfl
    · rfl
    · simp only [go_sem, zeroA]
    · trivial
    · rfl
  | true =>
  have hlen := rightT_rows hr
  have e : findT name cols rows key (.mk kd s dn ds num cs rs) col = findC cols rows key (.mk kd s dn ds num cs rs) col := by simp [findT, hr]
  rw [e]
  rw [hr] at h19
  by_cases hk : key ∈ cols ∧ col ∈ cols
  case neg =>
    have e : findC cols rows key (.mk kd s dn ds num cs rs) col = (zeroV, 13) := by unfold findC; rw [if_neg hk]
    rw [e]
    refine FnOK.leRes ?_ (zeroTup 13)
    refine FnOK.intro Tryz.f15 (by kernel_rfl) rfl rfl [.cell 8 33, .cell 9 37] rfl 0 rfl (Nat.le_of_ble_eq_true rfl) rfl rfl fun E hN h0 => W.code (N := 62) [4, 6] hN ?_
    simp only [encV]
    repeat (first | refine st_end rfl ?_ | ((first | refine st1 fun K k => ?_ | refine st2 fun K k => ?_ | refine st3 rfl fun K k => ?_ | refine st4 fun K k => ?_); simp only [go_sem]; refine k _ _ _ _ _ _ ?_; clear k K))
    (first | refine st1 fun K k => ?_ | refine st3 rfl fun K k => ?_); simp only [go_sem]; refine callP (h19) ?_; refine k _ _ _ _ _ _ ?_; clear k K
    repeat (first | refine st_end rfl ?_ | ((first | refine st1 fun K k => ?_ | refine st2 fun K k => ?_ | refine st3 rfl fun K k => ?_ | refine st4 fun K k => ?_); simp only [go_sem]; refine k _ _ _ _ _ _ ?_; clear k K))
    (first | refine st1 fun K k => ?_ | refine st3 rfl fun K k => ?_); simp only [go_sem]; refine callP (f52_ok cols key) ?_; refine k _ _ _ _ _ _ ?_; clear k K
    repeat (first | refine st_end rfl ?_ | ((first | refine st1 fun K k => ?_ | refine st2 fun K k => ?_ | refine st3 rfl fun K k => ?_ | refine st4 fun K k => ?_); simp only [go_sem]; refine k _ _ _ _ _ _ ?_; clear k K))
    (first | refine st1 fun K k => ?_ | refine st3 rfl fun K k => ?_); simp only [go_sem]; refine callP (f52_ok cols col) ?_; refine k _ _ _ _ _ _ ?_; clear k K
    by_cases h1 : key ∈ cols
    · have h2 : col ∉ cols := fun h => hk ⟨h1, h⟩
      obtain ⟨i1, i2⟩ := ix_eq h1
      have n1 : ¬ ((ix cols key : Int) < 0) := by omega
      have n2 := ix_neg h2
      repeat (first | refine st_end rfl ?_ | ((first | refine st1 fun K k => ?_ | refine st2 fun K k => ?_ | refine st3 rfl fun K k => ?_ | refine st4 fun K k => ?_); simp only [go_sem, i1, n1, n2, decide_true, decide_false]; refine k _ _ _ _ _ _ ?_; clear k K))
      refine Done.mk (.inr rfl) Into.refl ?_ [] 0 ?_ ?_ ?_ ?_
      · rfl
      · rfl
      · simp only [go_sem, zeroA]
      · trivial
      · rfl
    · have n1 := ix_neg h1
      repeat (first | refine st_end rfl ?_ | ((first | refine st1 fun K k => ?_ | refine st2 fun K k => ?_ | refine st3 rfl fun K k => ?_ | refine st4 fun K k => ?_); simp only [go_sem, n1, decide_true]; refine k _ _ _ _ _ _ ?_; clear k K))
      refine Done.mk (.inr rfl) Into.refl ?_ [] 0 ?_ ?_ ?_ ?_
      · rfl
      · rfl
      · simp only [go_sem, zeroA]
      · trivial
      · rfl
  obtain ⟨h1, h2⟩ := hk
  obtain ⟨i1, i2⟩ := ix_eq h1
  obtain ⟨j1, j2⟩ := ix_eq h2
  have n1 : ¬ ((ix cols key : Int) < 0) := by omega
  have n2 : ¬ ((ix cols col : Int) < 0) := by omega
  have ef := findC_eq rows (.mk kd s dn ds num cs rs) h1 h2
  have f54 := fun x => f54_ok x (.mk kd s dn ds num cs rs)
  obtain ⟨hit, hhit⟩ : ∃ hit : List Val → Bool, hitR (ix cols key) (.mk kd s dn ds num cs rs) = hit := ⟨_, rfl⟩
  have hhit2 : ∀ (r : List Val) (x : Val), r[ix cols key]? = some x → hit r = decide (x.kind ≠ 0 ∧ x = .mk kd s dn ds num cs rs) := by
    intro r x hx
    rw [← hhit]; unfold hitR; rw [getD_some hx]
  rw [hhit] at ef
  -- who is hit first
  have hfirst : (∃ k : Nat, ∃ r y, rows[k]? = some r ∧ r[ix cols col]? = some y ∧ hit r = true ∧ (∀ (a : Nat) (r' : List Val), a < k → rows[a]? = some r' → hit r' = false)) ∨ (∀ (a : Nat) (r' : List Val), rows[a]? = some r' → hit r' = false) := by
    rcases rounds (fun a => !hit (rows.getD a [])) rows.length with h | ⟨k, k1, k2, k3, k4⟩
    · refine .inr fun a r' ha => ?_
      have := h a (List.getElem?_eq_some_iff.1 ha).1
      simpa [List.getD_eq_getElem?_getD, ha] using this
    · obtain ⟨r, hrk⟩ := getS (l := rows) (i := k - 1) (by omega)
      have hrl := hlen r (List.mem_of_getElem? hrk)
      obtain ⟨y, hy⟩ := getS (l := r) (i := ix cols col) (by omega)
      refine .inl ⟨k - 1, r, y, hrk, hy, by simpa [List.getD_eq_getElem?_getD, hrk] using k4, fun a r' ha hr' => ?_⟩
      have := k3 a (by omega)
      simpa [List.getD_eq_getElem?_getD, hr'] using this
  refine FnOK.introR Tryz.f15 (by kernel_rfl) rfl rfl [.cell 8 33, .cell 9 37] rfl 0 rfl (Nat.le_of_ble_eq_true rfl) rfl rfl fun E hN hrd h0 => W.boundA 0 2 rfl rfl fun hb => W.code (N := 62) [4, 6] hN ?_
  simp only [List.length_map, maxLen] at hb
  simp only [encV] at f54 ⊢
  repeat (first | refine st_end rfl ?_ | ((first | refine st1 fun K k => ?_ | refine st2 fun K k => ?_ | refine st3 rfl fun K k => ?_ | refine st4 fun K k => ?_); simp only [go_sem]; refine k _ _ _ _ _ _ ?_; clear k K))
  (first | refine st1 fun K k => ?_ | refine st3 rfl fun K k => ?_); simp only [go_sem]; refine callP (h19) ?_; refine k _ _ _ _ _ _ ?_; clear k K
  repeat (first | refine st_end rfl ?_ | ((first | refine st1 fun K k => ?_ | refine st2 fun K k => ?_ | refine st3 rfl fun K k => ?_ | refine st4 fun K k => ?_); simp only [go_sem]; refine k _ _ _ _ _ _ ?_; clear k K))
  (first | refine st1 fun K k => ?_ | refine st3 rfl fun K k => ?_); simp only [go_sem]; refine callP (f52_ok cols key) ?_; refine k _ _ _ _ _ _ ?_; clear k K
  repeat (first | refine st_end rfl ?_ | ((first | refine st1 fun K k => ?_ | refine st2 fun K k => ?_ | refine st3 rfl fun K k => ?_ | refine st4 fun K k => ?_); simp only [go_sem]; refine k _ _ _ _ _ _ ?_; clear k K))
  (first | refine st1 fun K k => ?_ | refine st3 rfl fun K k => ?_); simp only [go_sem]; refine callP (f52_ok cols col) ?_; refine k _ _ _ _ _ _ ?_; clear k K
  repeat (first | refine st_end rfl ?_ | ((first | refine st1 fun K k => ?_ | refine st2 fun K k => ?_ | refine st3 rfl fun K k => ?_ | refine st4 fun K k => ?_); simp only [go_sem, i1, j1, n1, n2, decide_false]; refine k _ _ _ _ _ _ ?_; clear k K))
  (first | refine st1 fun K k => ?_ | refine st3 rfl fun K k => ?_); simp only [go_sem]; refine callP (f53_ok rows (ix cols key)) ?_; refine k _ _ _ _ _ _ ?_; clear k K
  repeat (first | refine st_end rfl ?_ | ((first | refine st1 fun K k => ?_ | refine st2 fun K k => ?_ | refine st3 rfl fun K k => ?_ | refine st4 fun K k => ?_); simp only [go_sem]; refine k _ _ _ _ _ _ ?_; clear k K))
  refine W.into (st' := ⟨[(4, .ep [.s name, strsD cols, rowsV rows]), (6, .ep [.v (.int .i64 kd), .s s, .v (.int .i64 dn), .v (.int .i64 ds), .v (.int .i64 num), strsD cs, .sl (encRs rs) 1]), (8, .ref 0 0), (9, .ref 1 0), (11, .ref 2 0), (36, .fn (.func 100) [] [.ep [rowsV rows], .ep [.v (.int .i64 (ix cols key))]])],
    [(0, .box [.v (.int .i64 0), .s [], .v (.int .i64 0), .v (.int .i64 0), .v (.int .i64 0), .v (.slice none 0 0), .v (.slice none 0 0)]), (1, .box [.v (.int .i64 0)]), (2, .box [.v (.int .i64 (ix cols col))])], 3, []⟩) (Into.le ?_ ?_ (Nat.le_refl _) rfl) ?_
  · simp only [go_sem]
  · simp only [go_sem, j1]
  obtain ⟨Z, hZ⟩ : ∃ Z : List D, Z = [.v (.int .i64 0), .s [], .v (.int .i64 0), .v (.int .i64 0), .v (.int .i64 0), .v (.slice none 0 0), .v (.slice none 0 0)] := ⟨_, rfl⟩
  rcases hfirst with ⟨k, r, y, hrk, hy, hq, hno⟩ | hno
  · have hfind := find_at hit rows k r (fun a r' ha hr' => hno a r' ha hr') hrk hq
    rw [hfind] at ef
    simp only [getD_some hy] at ef
    have hklt : k < rows.length := (List.getElem?_eq_some_iff.1 hrk).1
    have hcopy := f55_ok y (hsm r (List.mem_of_getElem? hrk) y (List.mem_of_getElem? hy))
    have hnames : ∀ θ : Nat → Option Nat, (∀ a ∈ [0, 1, 2], θ a = some a) → θ 0 = some 0 ∧ θ 1 = some 1 ∧ θ 2 = some 2 := fun θ h => ⟨h 0 (by simp), h 1 (by simp), h 2 (by simp)⟩
    by_cases z : y.kind = 0
    · rw [if_pos z] at ef
      rw [ef]
      refine W.column rows (ix cols key) (fun r hr => by rw [hlen r hr]; omega) hrd (by rfl) rfl (by rw [hN]; rfl) (fun _ => [(0, .box [.v (.int .i64 0), .s [], .v (.int .i64 0), .v (.int .i64 0), .v (.int .i64 0), .v (.slice none 0 0), .v (.slice none 0 0)]), (1, .box [.v (.int .i64 0)]), (2, .box [.v (.int .i64 (ix cols col))])]) (by simp only [go_sem]) (fun _ => rfl) (fun _ => by simp only [go_sem]) (by simp only [go_sem]) rfl ?_ ?_ (k + 1) (by omega) (some (.exit 0)) (.inr ⟨by simp, by omega⟩) ?_ ?_
      · intro θ hθ
        obtain ⟨t0, t1, t2⟩ := hnames θ hθ
        simp only [go_sem, t0, t1, t2]
      · intro a θ hθ
        simp only [go_sem]
      · intro a r' x hak hr' hx E' hN' hrd' h0' L
        have hh := hhit2 r' x hx
        have hf := f54 x
        rw [← hh] at hf
        by_cases hak2 : a = k
        · subst hak2
          obtain rfl : r = r' := by rw [hrk] at hr'; cases hr'; rfl
          rw [hq] at hf
          have hjj : (if a + 1 = a + 1 then (some (Code.exit 0)) else none) = some (.exit 0) := by simp
          rw [hjj]
          obtain ⟨kd2, s2, dn2, ds2, num2, cs2, rs2⟩ := x
          obtain ⟨kd3, s3, dn3, ds3, num3, cs3, rs3⟩ := y
          have z' : (kd3 == 0) = true := by simpa [Val.kind] using z
          simp only [encV] at hf ⊢
          simp only [zipT, setT]
          refine W.code (N := 62) [] (hN'.trans hN) ?_
          repeat (first | refine st_end rfl ?_ | ((first | refine st1 fun K k => ?_ | refine st2 fun K k => ?_ | refine st3 rfl fun K k => ?_ | refine st4 fun K k => ?_); simp only [go_sem]; refine k _ _ _ _ _ _ ?_; clear k K))
          refine ⟨_, Into.refl, rfl, fun L' => W.code (N := 62) [] (hN'.trans hN) ?_⟩
          simp only [go_sem]
          repeat (first | refine st_end rfl ?_ | ((first | refine st1 fun K k => ?_ | refine st2 fun K k => ?_ | refine st3 rfl fun K k => ?_ | refine st4 fun K k => ?_); simp only [go_sem]; refine k _ _ _ _ _ _ ?_; clear k K))
          (first | refine st1 fun K k => ?_ | refine st3 rfl fun K k => ?_); simp only [go_sem]; refine callP (hf) ?_; refine k _ _ _ _ _ _ ?_; clear k K
          repeat (first | refine st_end rfl ?_ | ((first | refine st1 fun K k => ?_ | refine st2 fun K k => ?_ | refine st3 rfl fun K k => ?_ | refine st4 fun K k => ?_); simp only [go_sem, hrk, hy, encV, z']; refine k _ _ _ _ _ _ ?_; clear k K))
          refine ⟨rfl, _, Into.refl, rfl, ?_⟩
          simp only [go_sem]
        · rw [hno a r' (by omega) hr'] at hf
          have hjj : (if a + 1 = k + 1 then (some (Code.exit 0)) else none) = none := by simp; omega
          rw [hjj]
          obtain ⟨kd2, s2, dn2, ds2, num2, cs2, rs2⟩ := x
          simp only [encV] at hf ⊢
          simp only [zipT, setT]
          refine W.code (N := 62) [] (hN'.trans hN) ?_
          repeat (first | refine st_end rfl ?_ | ((first | refine st1 fun K k => ?_ | refine st2 fun K k => ?_ | refine st3 rfl fun K k => ?_ | refine st4 fun K k => ?_); simp only [go_sem]; refine k _ _ _ _ _ _ ?_; clear k K))
          refine ⟨_, Into.refl, rfl, fun L' => W.code (N := 62) [] (hN'.trans hN) ?_⟩
          simp only [go_sem]
          repeat (first | refine st_end rfl ?_ | ((first | refine st1 fun K k => ?_ | refine st2 fun K k => ?_ | refine st3 rfl fun K k => ?_ | refine st4 fun K k => ?_); simp only [go_sem]; refine k _ _ _ _ _ _ ?_; clear k K))
          (first | refine st1 fun K k => ?_ | refine st3 rfl fun K k => ?_); simp only [go_sem]; refine callP (hf) ?_; refine k _ _ _ _ _ _ ?_; clear k K
          repeat (first | refine st_end rfl ?_ | ((first | refine st1 fun K k => ?_ | refine st2 fun K k => ?_ | refine st3 rfl fun K k => ?_ | refine st4 fun K k => ?_); simp only [go_sem]; refine k _ _ _ _ _ _ ?_; clear k K))
          refine ⟨rfl, _, Into.refl, rfl, ?_⟩
          simp only [go_sem]
      · refine W.code (N := 62) [4, 6] hN ?_
        repeat (first | refine st_end rfl ?_ | ((first | refine st1 fun K k => ?_ | refine st2 fun K k => ?_ | refine st3 rfl fun K k => ?_ | refine st4 fun K k => ?_); simp only [go_sem]; refine k _ _ _ _ _ _ ?_; clear k K))
        refine Done.into (Into.le (st' := ⟨[(8, .ref 0 0), (9, .ref 1 0)], [(0, .box (encV zeroV)), (1, .box [.v (.int .i64 18)])], 4, []⟩) ?_ ?_ (Nat.le_refl _) rfl) (Done.mk (.inr rfl) Into.refl ?_ [] 0 ?_ ?_ ?_ ?_)
        · simp only [go_sem]
        · simp only [go_sem]
          exact LeO.box zeroLe
        · rfl
        · rfl
        · simp only [go_sem, encV, zeroV]
        · trivial
        · rfl
    · rw [if_neg z] at ef
      rw [ef]
      obtain ⟨S, hS⟩ : ∃ S : Nat → Store, ∀ a, S a = [(0, .box (if a ≤ k then [.v (.int .i64 0), .s [], .v (.int .i64 0), .v (.int .i64 0), .v (.int .i64 0), .v (.slice none 0 0), .v (.slice none 0 0)] else encV y)), (1, .box [.v (.int .i64 0)]), (2, .box [.v (.int .i64 (ix cols col))])] := ⟨_, fun _ => rfl⟩
      have hS1 : ∀ a, a ≤ k → S a = [(0, .box [.v (.int .i64 0), .s [], .v (.int .i64 0), .v (.int .i64 0), .v (.int .i64 0), .v (.slice none 0 0), .v (.slice none 0 0)]), (1, .box [.v (.int .i64 0)]), (2, .box [.v (.int .i64 (ix cols col))])] := fun a ha => by rw [hS, if_pos ha]
      have hS2 : S (k + 1) = [(0, .box (encV y)), (1, .box [.v (.int .i64 0)]), (2, .box [.v (.int .i64 (ix cols col))])] := by rw [hS, if_neg (by omega)]
      have hSn : ∀ a, namesL (S a) = [0, 1, 2] := fun a => by rw [hS]; rfl
      refine W.column rows (ix cols key) (fun r hr => by rw [hlen r hr]; omega) hrd (by rfl) rfl (by rw [hN]; rfl) S (by rw [hS1 0 (Nat.zero_le _)]; simp only [go_sem]) (fun a => by rw [hSn, hSn]) (fun a => by rw [hS]; simp only [go_sem]) (fun a ha => by rw [hSn] at ha; simp at ha; show a < 3; omega) (by rw [hS]; rfl) ?_ ?_ (k + 1) (by omega) (some .ret) (.inr ⟨by simp, by omega⟩) ?_ ?_
      · intro θ hθ
        rw [hSn] at hθ
        obtain ⟨t0, t1, t2⟩ := hnames θ hθ
        simp only [go_sem, t0, t1, t2]
      · intro a θ hθ
        rw [hS]
        by_cases ha : a ≤ k
        · rw [if_pos ha]
          simp only [go_sem]
        · rw [if_neg ha]
          simp only [go_sem, subL_encV]
      · intro a r' x hak hr' hx E' hN' hrd' h0' L
        have hh := hhit2 r' x hx
        have hf := f54 x
        rw [← hh] at hf
        rw [hS1 a (by omega)]
        by_cases hak2 : a = k
        · subst hak2
          obtain rfl : r = r' := by rw [hrk] at hr'; cases hr'; rfl
          rw [hq] at hf
          have hjj : (if a + 1 = a + 1 then (some Code.ret) else none) = some .ret := by simp
          rw [hjj]
          obtain ⟨kd2, s2, dn2, ds2, num2, cs2, rs2⟩ := x
          obtain ⟨kd3, s3, dn3, ds3, num3, cs3, rs3⟩ := y
          have z' : (kd3 == 0) = false := by simpa [Val.kind] using z
          simp only [encV] at hf hcopy ⊢
          simp only [zipT, setT]
          refine W.code (N := 62) [] (hN'.trans hN) ?_
          repeat (first | refine st_end rfl ?_ | ((first | refine st1 fun K k => ?_ | refine st2 fun K k => ?_ | refine st3 rfl fun K k => ?_ | refine st4 fun K k => ?_); simp only [go_sem]; refine k _ _ _ _ _ _ ?_; clear k K))
          refine ⟨_, Into.refl, rfl, fun L' => W.code (N := 62) [] (hN'.trans hN) ?_⟩
          simp only [go_sem]
          repeat (first | refine st_end rfl ?_ | ((first | refine st1 fun K k => ?_ | refine st2 fun K k => ?_ | refine st3 rfl fun K k => ?_ | refine st4 fun K k => ?_); simp only [go_sem]; refine k _ _ _ _ _ _ ?_; clear k K))
          (first | refine st1 fun K k => ?_ | refine st3 rfl fun K k => ?_); simp only [go_sem]; refine callP (hf) ?_; refine k _ _ _ _ _ _ ?_; clear k K
          repeat (first | refine st_end rfl ?_ | ((first | refine st1 fun K k => ?_ | refine st2 fun K k => ?_ | refine st3 rfl fun K k => ?_ | refine st4 fun K k => ?_); simp only [go_sem, hrk, hy, encV, z']; refine k _ _ _ _ _ _ ?_; clear k K))
          (first | refine st1 fun K k => ?_ | refine st3 rfl fun K k => ?_); simp only [go_sem]; refine callP (hcopy) ?_; refine k _ _ _ _ _ _ ?_; clear k K
          repeat (first | refine st_end rfl ?_ | ((first | refine st1 fun K k => ?_ | refine st2 fun K k => ?_ | refine st3 rfl fun K k => ?_ | refine st4 fun K k => ?_); simp only [go_sem]; refine k _ _ _ _ _ _ ?_; clear k K))
          refine ⟨rfl, _, Into.refl, rfl, ?_⟩
          rw [hS2]
          simp only [go_sem, encV]
        · rw [hno a r' (by omega) hr'] at hf
          have hjj : (if a + 1 = k + 1 then (some Code.ret) else none) = none := by simp; omega
          rw [hjj]
          obtain ⟨kd2, s2, dn2, ds2, num2, cs2, rs2⟩ := x
          simp only [encV] at hf ⊢
          simp only [zipT, setT]
          refine W.code (N := 62) [] (hN'.trans hN) ?_
          repeat (first | refine st_end rfl ?_ | ((first | refine st1 fun K k => ?_ | refine st2 fun K k => ?_ | refine st3 rfl fun K k => ?_ | refine st4 fun K k => ?_); simp only [go_sem]; refine k _ _ _ _ _ _ ?_; clear k K))
          refine ⟨_, Into.refl, rfl, fun L' => W.code (N := 62) [] (hN'.trans hN) ?_⟩
          simp only [go_sem]
          repeat (first | refine st_end rfl ?_ | ((first | refine st1 fun K k => ?_ | refine st2 fun K k => ?_ | refine st3 rfl fun K k => ?_ | refine st4 fun K k => ?_); simp only [go_sem]; refine k _ _ _ _ _ _ ?_; clear k K))
          (first | refine st1 fun K k => ?_ | refine st3 rfl fun K k => ?_); simp only [go_sem]; refine callP (hf) ?_; refine k _ _ _ _ _ _ ?_; clear k K
          repeat (first | refine st_end rfl ?_ | ((first | refine st1 fun K k => ?_ | refine st2 fun K k => ?_ | refine st3 rfl fun K k => ?_ | refine st4 fun K k => ?_); simp only [go_sem]; refine k _ _ _ _ _ _ ?_; clear k K))
          refine ⟨rfl, _, Into.refl, rfl, ?_⟩
          rw [hS1 (a + 1) (by omega)]
          simp only [go_sem]
      · rw [hS2]
        refine W.code (N := 62) [4, 6] hN ?_
        repeat (first | refine st_end rfl ?_ | ((first | refine st1 fun K k => ?_ | refine st2 fun K k => ?_ | refine st3 rfl fun K k => ?_ | refine st4 fun K k => ?_); simp only [go_sem]; refine k _ _ _ _ _ _ ?_; clear k K))
        obtain ⟨kd3, s3, dn3, ds3, num3, cs3, rs3⟩ := y
        refine Done.mk (.inr rfl) Into.refl ?_ [] 0 ?_ ?_ ?_ ?_
        · rfl
        · rfl
        · simp only [go_sem, encV]
        · trivial
        · rfl
  · have hnf := find_no hit rows fun a r hr => hno a r hr
    rw [hnf] at ef
    rw [ef]
    refine W.column rows (ix cols key) (fun r hr => by rw [hlen r hr]; omega) hrd (by rfl) rfl (by rw [hN]; rfl) (fun _ => [(0, .box [.v (.int .i64 0), .s [], .v (.int .i64 0), .v (.int .i64 0), .v (.int .i64 0), .v (.slice none 0 0), .v (.slice none 0 0)]), (1, .box [.v (.int .i64 0)]), (2, .box [.v (.int .i64 (ix cols col))])]) (by simp only [go_sem]) (fun _ => rfl) (fun _ => by simp only [go_sem]) (by simp only [go_sem]) rfl ?_ ?_ rows.length (Nat.le_refl _) none (.inl ⟨rfl, rfl⟩) ?_ ?_
    · intro θ hθ
      have t0 := hθ 0 (by simp [namesL])
      have t1 := hθ 1 (by simp [namesL])
      have t2 := hθ 2 (by simp [namesL])
      simp only [go_sem, t0, t1, t2]
    · intro a θ hθ
      simp only [go_sem]
    · intro a r x hak hr hx E' hN' hrd' h0' L
      have hh := hhit2 r x hx
      have hf := f54 x
      rw [← hh, hno a r hr] at hf
      have hjj : (if a + 1 = rows.length then (none : Option Code) else none) = none := by simp
      rw [hjj]
      obtain ⟨kd2, s2, dn2, ds2, num2, cs2, rs2⟩ := x
      simp only [encV] at hf ⊢
      simp only [zipT, setT]
      refine W.code (N := 62) [] (hN'.trans hN) ?_
      repeat (first | refine st_end rfl ?_ | ((first | refine st1 fun K k => ?_ | refine st2 fun K k => ?_ | refine st3 rfl fun K k => ?_ | refine st4 fun K k => ?_); simp only [go_sem]; refine k _ _ _ _ _ _ ?_; clear k K))
      refine ⟨_, Into.refl, rfl, fun L' => W.code (N := 62) [] (hN'.trans hN) ?_⟩
      simp only [go_sem]
      repeat (first | refine st_end rfl ?_ | ((first | refine st1 fun K k => ?_ | refine st2 fun K k => ?_ | refine st3 rfl fun K k => ?_ | refine st4 fun K k => ?_); simp only [go_sem]; refine k _ _ _ _ _ _ ?_; clear k K))
      (first | refine st1 fun K k => ?_ | refine st3 rfl fun K k => ?_); simp only [go_sem]; refine callP (hf) ?_; refine k _ _ _ _ _ _ ?_; clear k K
      repeat (first | refine st_end rfl ?_ | ((first | refine st1 fun K k => ?_ | refine st2 fun K k => ?_ | refine st3 rfl fun K k => ?_ | refine st4 fun K k => ?_); simp only [go_sem]; refine k _ _ _ _ _ _ ?_; clear k K))
      refine ⟨rfl, _, Into.refl, rfl, ?_⟩
      simp only [go_sem]
    · repeat (first | refine st_end rfl ?_ | ((first | refine st1 fun K k => ?_ | refine st2 fun K k => ?_ | refine st3 rfl fun K k => ?_ | refine st4 fun K k => ?_); simp only [go_sem]; refine k _ _ _ _ _ _ ?_; clear k K))
      refine Done.into (Into.le (st' := ⟨[(8, .ref 0 0), (9, .ref 1 0)], [(0, .box (encV zeroV)), (1, .box [.v (.int .i64 18)])], 4, []⟩) ?_ ?_ (Nat.le_refl _) rfl) (Done.mk (.inr rfl) Into.refl ?_ [] 0 ?_ ?_ ?_ ?_)
      · simp only [go_sem]
      · simp only [go_sem]
        exact LeO.box zeroLe
      · rfl
      · rfl
      · simp only [go_sem, encV, zeroV]
      · trivial
      · rfl
end Go.Proofs.YtjgooecohepkoaaGreatDoor
namespace Go.Proofs.YtjgooecohepkoaaGreatDoor
open Go Go.Abs
set_option linter.unusedSimpArgs false
set_option maxHeartbeats 2000000
/-! ### Made tables are right; changed ones can be held -/
/-- What a table must be for its contracts. -/
structure Good (name : List UInt8) (cols : List (List UInt8)) (rows : List (List Val)) : Prop where
  hn : name.length ≤ 1000000
  hc : ∀ c ∈ cols, c.length ≤ 1000000
  hs : ∀ row ∈ rows, ∀ v ∈ row, v.str.length ≤ 1000000
  hm : ∀ row ∈ rows, ∀ v ∈ row, Small v
theorem small_flat (kd : Int) (s : List UInt8) (dn ds n : Int) : Small (.mk kd s dn ds n [] []) :=
  Small.mk _ _ _ _ _ _ _ (by simp) (by simp) (by simp) (by simp)
theorem small_zero : Small zeroV := small_flat _ _ _ _ _
theorem textV_len (L : List Int) (i : Nat) : (textV L i).length ≤ 1000000 := by
  unfold textV
  split
  · rename_i h
    obtain ⟨a1, a2⟩ := nextV_pos L i (n := 18) (by omega)
    obtain ⟨q, hq⟩ : ∃ q : Nat, (nextV L i 18).toNat = q := ⟨_, rfl⟩
    have hq15 : q < 15 := by omega
    rw [hq]
    have : ∀ q : Nat, q < 15 → (words15.getD q []).length ≤ 1000000 := by decide
    exact this q hq15
  · obtain ⟨b1, b2⟩ := nextV_pos L (i + 1) (n := 9) (by omega)
    obtain ⟨c1, c2⟩ := nextV_pos L (i + 2) (n := 11) (by omega)
    rw [List.length_map, List.length_range]
    unfold textN
    split
    · omega
    · split <;> omega
theorem valV_str (L : List Int) (i : Nat) (k : Int) : (valV L i k).str.length ≤ 1000000 := by
  unfold valV
  split
  · exact textV_len L i
  · split
    · simp [Val.str]
    · split
      · simp [Val.str]
      · split <;> simp [Val.str]
theorem valV_small (L : List Int) (i : Nat) (k : Int) : Small (valV L i k) := by
  unfold valV
  split
  · exact small_flat _ _ _ _ _
  · split
    · exact small_flat _ _ _ _ _
    · split
      · exact small_flat _ _ _ _ _
      · split <;> exact small_flat _ _ _ _ _
theorem cellW_small (L : List Int) (p : Nat) (k : Int) : Small (cellW L p k) := by
  unfold cellW
  split
  · exact small_zero
  · exact valV_small L _ k
theorem tMany_le (L : List Int) (i : Nat) : tMany L i ≤ 3 := by
  obtain ⟨a1, a2⟩ := nextV_pos L i (n := 4) (by omega)
  unfold tMany; omega
theorem tRows_le (L : List Int) (i : Nat) : tRows L i ≤ 4 := by
  obtain ⟨a1, a2⟩ := nextV_pos L (i + 1 + tMany L i) (n := 5) (by omega)
  unfold tRows; omega
theorem made_small (L : List Int) : Small (madeOf L) := by
  unfold madeOf madeV
  split
  · unfold tabV
    have h1 := tMany_le L 1
    have h2 := tRows_le L 1
    refine Small.mk _ _ _ _ _ _ _ (by simp; omega) (by simp; omega) ?_ ?_
    · intro row hrow
      obtain ⟨r, _, rfl⟩ := List.mem_map.1 hrow
      simp [rowW]; omega
    · intro row hrow v hv
      obtain ⟨r, _, rfl⟩ := List.mem_map.1 hrow
      obtain ⟨j, _, rfl⟩ := List.mem_map.1 hv
      exact cellW_small L _ _
  · exact valV_small L _ _
theorem made_str (L : List Int) : (madeOf L).str.length ≤ 1000000 := by
  unfold madeOf madeV
  split
  · simp [tabV, Val.str]
  · exact valV_str L _ _
/-- A changed table. -/
theorem odd_good {name : List UInt8} {cols : List (List UInt8)} {rows : List (List Val)} (h : Good name cols rows) (q0 q1 q2 : Int) : Good (oddName name q0 q1) (oddCols cols q0) (oddRows cols rows q0 q1 q2) := by
  have hcell : ∀ row ∈ oddRows cols rows q0 q1 q2, ∀ v ∈ row, v.str.length ≤ 1000000 ∧ Small v := by
    have hz : ∀ (n : Nat), ∀ v ∈ List.replicate n zeroV, v.str.length ≤ 1000000 ∧ Small v := by
      intro n v hv
      rw [List.eq_of_mem_replicate hv]
      exact ⟨by simp [zeroV, Val.str], small_zero⟩
    have ho : ∀ row ∈ rows, ∀ v ∈ row, v.str.length ≤ 1000000 ∧ Small v := fun row hr v hv => ⟨h.hs row hr v hv, h.hm row hr v hv⟩
    unfold oddRows
    split
    · intro row hr
      rcases List.mem_append.1 hr with hr | hr
      · exact ho row hr
      · simp at hr; subst hr; exact hz _
    split
    · split
      · rename_i r hrk
        intro row hr
        rcases List.mem_append.1 hr with hr | hr
        · exact ho row (List.mem_of_mem_take hr)
        · rcases List.mem_cons.1 hr with rfl | hr
          · intro v hv
            rcases List.mem_or_eq_of_mem_set hv with hv | rfl
            · exact ho r (List.mem_of_getElem? hrk) v hv
            · exact ⟨made_str _, made_small _⟩
          · exact ho row (List.mem_of_mem_drop hr)
      · exact ho
    split
    · intro row hr; simp at hr
    split
    · exact fun row hr => ho row (List.mem_of_mem_drop hr)
    split
    · intro row hr
      rcases List.mem_append.1 hr with hr | hr
      · exact ho row hr
      · rw [List.eq_of_mem_replicate hr]; exact hz _
    split
    · split
      · rename_i r rest
        intro row hr
        rcases List.mem_cons.1 hr with rfl | hr
        · exact fun v hv => ho r (by simp) v (List.mem_of_mem_drop hv)
        · exact ho row (by simp [hr])
      · intro row hr; simp at hr
    · exact ho
  refine ⟨?_, ?_, fun row hr v hv => (hcell row hr v hv).1, fun row hr v hv => (hcell row hr v hv).2⟩
  · unfold oddName
    split
    · obtain ⟨_, _, b3⟩ := modN_eq 4 (by omega) (by omega) q1
      have : ∀ q : Nat, q < 4 → (names4o.getD q []).length ≤ 1000000 := by decide
      exact this _ b3
    · exact h.hn
  · unfold oddCols
    split
    · intro c hc
      rcases List.mem_append.1 hc with hc | hc
      · exact h.hc c hc
      · simp at hc; subst hc; decide
    · split
      · intro c hc; simp at hc
      · exact h.hc
/-! Made tables -/
def mCols (L : List Int) : List (List UInt8) := names4.take (mMany L)
def mVals (L : List Int) : List (List Val) := valsOf ((List.range (mRows L)).map (mRow L))
theorem mMany_bd (L : List Int) : 1 ≤ mMany L ∧ mMany L ≤ 4 := by
  obtain ⟨a1, a2⟩ := nextV_pos L 0 (n := 4) (by omega)
  unfold mMany; omega
theorem mRows_bd (L : List Int) : mRows L ≤ 6 := by
  obtain ⟨a1, a2⟩ := nextV_pos L (1 + mMany L) (n := 7) (by omega)
  unfold mRows; omega
theorem mCols_len (L : List Int) : (mCols L).length = mMany L := by
  have := mMany_bd L
  simp [mCols, names4]; omega
theorem mVals_row {L : List Int} {row : List Val} (h : row ∈ mVals L) : ∃ r, row = (List.range (mMany L)).map fun j => (mCell L r j).val := by
  unfold mVals valsOf at h
  rw [List.map_map] at h
  obtain ⟨r, _, rfl⟩ := List.mem_map.1 h
  exact ⟨r, by simp [mRow, Function.comp_def]⟩
theorem mVals_sq (L : List Int) : ∀ r ∈ mVals L, r.length = (mCols L).length := by
  intro r hr
  obtain ⟨q, rfl⟩ := mVals_row hr
  rw [mCols_len]; simp
theorem mod5_lt (n : Int) : mod5 n < 5 := by
  have b1 : -5 < n.tmod 5 ∧ n.tmod 5 < 5 := ⟨Int.lt_tmod_of_pos n (by omega), Int.tmod_lt_of_pos n (by omega)⟩
  have b2 := Int.tmod_nonneg 5 (show 0 ≤ n.tmod 5 + 5 by omega)
  have b3 := Int.tmod_lt_of_pos (n.tmod 5 + 5) (show (0 : Int) < 5 by omega)
  unfold mod5; omega
/-- What is known of a cell. -/
theorem cell_facts (k : Int) (m : Nat) (hm : m < 5) : (cellV k m).val.str.length ≤ 1000000 ∧ (cellV k m).val.kind ≠ 5 ∧ rightF (cellV k m).val = true ∧ ((cellV k m).val.kind = 0 ∨ (cellV k m).val.kind = (if k = 2 then 2 else if k = 3 then 3 else 1)) := by
  by_cases h2 : k = 2
  · subst h2
    rcases m with _ | _ | _ | _ | _ | m <;> first | omega | decide
  · by_cases h3 : k = 3
    · subst h3
      rcases m with _ | _ | _ | _ | _ | m <;> first | omega | decide
    · rcases m with _ | _ | _ | _ | _ | m
      all_goals first
        | omega
        | (simp only [cellV, h2, h3, if_false]; decide)
        | (simp only [cellV, h2, h3, if_false, if_true]; decide)
theorem mCell_val (L : List Int) (r j : Nat) : ∃ m, m < 5 ∧ mCell L r j = cellV (mKind L j) m := ⟨_, mod5_lt _, rfl⟩
theorem made_good (L : List Int) : Good [116] (mCols L) (mVals L) := by
  refine ⟨by simp, ?_, ?_, ?_⟩
  · intro c hc
    have : ∀ c ∈ names4, c.length ≤ 1000000 := by decide
    exact this c (List.mem_of_mem_take hc)
  · intro row hrow v hv
    obtain ⟨r, rfl⟩ := mVals_row hrow
    obtain ⟨j, _, rfl⟩ := List.mem_map.1 hv
    obtain ⟨m, hm, e⟩ := mCell_val L r j
    rw [e]
    exact (cell_facts _ m hm).1
  · intro row hrow v hv
    obtain ⟨r, rfl⟩ := mVals_row hrow
    obtain ⟨j, _, rfl⟩ := List.mem_map.1 hv
    exact small_flat _ _ _ _ _
theorem made_tab_small (L : List Int) : Small (.mk 5 [] 0 0 0 (mCols L) (mVals L)) := by
  have h1 := mMany_bd L
  have h2 := mRows_bd L
  have h3 := mCols_len L
  refine Small.mk _ _ _ _ _ _ _ (by omega) (by simp [mVals, valsOf]; omega) (fun row hr => by rw [mVals_sq L row hr]; omega) (made_good L).hm
theorem made_right (L : List Int) : rightT [116] (mCols L) (mVals L) = true := by
  have h1 := mMany_bd L
  have h2 := mRows_bd L
  have h3 := mCols_len L
  have hname : nameR [116] = true := by decide
  have hcols : (mCols L).isEmpty = false := by
    cases hc : mCols L with
    | nil => rw [hc] at h3; simp at h3; omega
    | cons a r => rfl
  have hrows : rowsR (mCols L) (mVals L) = true := by
    simp only [rowsR, Bool.and_eq_true, decide_eq_true_eq, List.all_eq_true]
    refine ⟨⟨⟨by omega, by simp [mVals, valsOf]; omega⟩, ?_, ?_⟩, ?_⟩
    · intro c hc
      have : ∀ c ∈ names4, nameR c = true := by decide
      exact this c (List.mem_of_mem_take hc)
    · have : names4.Nodup := by decide
      exact List.Sublist.nodup (List.take_sublist _ _) this
    · intro row hrow
      simp only [rowR, Bool.and_eq_true, decide_eq_true_eq, Bool.not_eq_true']
      refine ⟨mVals_sq L row hrow, ?_⟩
      rw [← Bool.not_eq_true, List.any_eq_true]
      rintro ⟨v, hv, hb⟩
      obtain ⟨r, rfl⟩ := mVals_row hrow
      obtain ⟨j, _, rfl⟩ := List.mem_map.1 hv
      obtain ⟨m, hm, e⟩ := mCell_val L r j
      rw [e] at hb
      obtain ⟨_, f1, f2, _⟩ := cell_facts (mKind L j) m hm
      rw [f2] at hb
      simp [f1] at hb
  have hokc : ((List.range (mCols L).length).all fun c => okCol ((mVals L).map (kindAt c))) = true := by
    rw [List.all_eq_true]
    intro c hc
    have hcl : c < mMany L := by rw [h3] at hc; simpa using hc
    -- every cell of the column has no kind, or the column's
    have hk : ∀ x ∈ (mVals L).map (kindAt c), x = 0 ∨ x = (if mKind L c = 2 then 2 else if mKind L c = 3 then 3 else 1) := by
      intro x hx
      obtain ⟨row, hrow, rfl⟩ := List.mem_map.1 hx
      obtain ⟨r, rfl⟩ := mVals_row hrow
      have hg : ((List.range (mMany L)).map fun j => (mCell L r j).val)[c]? = some (mCell L r c).val := by
        rw [List.getElem?_map, List.getElem?_range hcl]; rfl
      unfold kindAt
      rw [hg]
      obtain ⟨m, hm, e⟩ := mCell_val L r c
      rw [e]
      exact (cell_facts (mKind L c) m hm).2.2.2
    rw [okCol, List.all_eq_true]
    intro x hx
    rcases hk x hx with h | h
    · simp [h]
    · have hx0 : x ≠ 0 := by rw [h]; split; · decide
                             · split <;> decide
      have hk1 : kind1 ((mVals L).map (kindAt c)) = x := by
        unfold kind1
        cases hf : ((mVals L).map (kindAt c)).find? (· != 0) with
        | none =>
          rw [List.find?_eq_none] at hf
          have := hf x hx
          simp [hx0] at this
        | some y =>
          have hy0 : y ≠ 0 := by have := List.find?_some hf; simpa using this
          rcases hk y (List.mem_of_find?_eq_some hf) with h' | h'
          · exact absurd h' hy0
          · simp only [Option.getD_some]; rw [h', h]
      simp [hk1]
  simp only [rightT, hname, hcols, hrows, hokc]
  rfl
end Go.Proofs.YtjgooecohepkoaaGreatDoor
