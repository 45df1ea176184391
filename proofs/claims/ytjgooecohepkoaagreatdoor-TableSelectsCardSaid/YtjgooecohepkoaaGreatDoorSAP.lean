/- Contracts of the functions that the statement reaches. -/
import Derived.Test.YtjgooecohepkoaaGreatDoorSAO
import Derived.Test.YtjgooecohepkoaaGreatDoorSAM
set_option linter.unusedVariables false
set_option linter.unusedSimpArgs false
namespace Go.Proofs.YtjgooecohepkoaaGreatDoor
open Go Go.Abs
set_option linter.unusedSimpArgs false
set_option maxHeartbeats 2000000
/-- What a value must be for the contracts of Where and Pick. -/
structure GoodV (v : Val) : Prop where
  hd : v.held
  hc : ∀ c ∈ v.cols, c.length ≤ 1000000
  sm : Small v
theorem good_tab {name : List UInt8} {cols : List (List UInt8)} {rows : List (List Val)} (h : Good name cols rows) (h1 : cols.length ≤ 1000000) (h2 : rows.length ≤ 1000000) (h3 : ∀ r ∈ rows, r.length ≤ 1000000) : GoodV (.mk 5 [] 0 0 0 cols rows) :=
  ⟨⟨by simp, h.hc, h.hs⟩, h.hc, Small.mk _ _ _ _ _ _ _ h1 h2 h3 h.hm⟩
theorem odd_len {cols : List (List UInt8)} {rows : List (List Val)} (q0 q1 q2 : Int) (h1 : cols.length ≤ 1000) (h2 : rows.length ≤ 1000) (h3 : ∀ r ∈ rows, r.length ≤ 1000000) :
    (oddCols cols q0).length ≤ 1000000 ∧ (oddRows cols rows q0 q1 q2).length ≤ 1000000 ∧ ∀ r ∈ oddRows cols rows q0 q1 q2, r.length ≤ 1000000 := by
  have h8 := (modN_eq 8 (by omega) (by omega) q1).2.2
  refine ⟨?_, ?_, ?_⟩
  · unfold oddCols
    split
    · simp; omega
    · split
      · simp
      · omega
  · unfold oddRows
    split
    · simp; omega
    split
    · split
      · simp; omega
      · omega
    split
    · simp
    split
    · simp; omega
    split
    · simp; omega
    split
    · split
      · rename_i r rest; simp at h2 ⊢; omega
      · simp
    · omega
  · unfold oddRows
    have hz : ∀ r, r = List.replicate cols.length zeroV → r.length ≤ 1000000 := by
      rintro r rfl
      simp; omega
    split
    · intro row hr
      rcases List.mem_append.1 hr with hr | hr
      · exact h3 row hr
      · exact hz _ (by simpa using hr)
    split
    · split
      · rename_i r hrk
        intro row hr
        rcases List.mem_append.1 hr with hr | hr
        · exact h3 row (List.mem_of_mem_take hr)
        · rcases List.mem_cons.1 hr with rfl | hr
          · rw [List.length_set]; exact h3 r (List.mem_of_getElem? hrk)
          · exact h3 row (List.mem_of_mem_drop hr)
      · exact h3
    split
    · intro row hr; simp at hr
    split
    · exact fun row hr => h3 row (List.mem_of_mem_drop hr)
    split
    · intro row hr
      rcases List.mem_append.1 hr with hr | hr
      · exact h3 row hr
      · exact hz _ (List.eq_of_mem_replicate hr)
    split
    · split
      · rename_i r rest
        intro row hr
        rcases List.mem_cons.1 hr with rfl | hr
        · have := h3 r (by simp); simp; omega
        · exact h3 row (by simp [hr])
      · intro row hr; simp at hr
    · exact h3
theorem cell_good (k : Int) (n : Int) : GoodV (cellV k (mod5 n)).val :=
  ⟨⟨(cell_facts k _ (mod5_lt n)).1, by simp, by simp⟩, by simp [FV.val, Val.cols], small_flat _ _ _ _ _⟩
theorem f21_val (name : List UInt8) (cols : List (List UInt8)) (rows : List (List Val)) : FnOK sys 21 [.agg [.s name, strsD cols, rowsV rows]] [] (.agg [.v (.int .i64 5), .s [], .v (.int .i64 0), .v (.int .i64 0), .v (.int .i64 0), strsD cols, rowsV rows]) [] := by
  refine FnOK.intro Tryz.f21 (by kernel_rfl) rfl rfl [.cell 2 33] rfl 0 rfl (Nat.le_of_ble_eq_true rfl) rfl rfl fun E hN h0 => W.code (N := 8) [1] hN ?_
  repeat (first | refine st_end rfl ?_ | ((first | refine st1 fun K k => ?_ | refine st2 fun K k => ?_ | refine st3 rfl fun K k => ?_ | refine st4 fun K k => ?_); simp only [go_sem]; refine k _ _ _ _ _ _ ?_; clear k K))
  refine Done.mk (.inr rfl) Into.refl ?_ [] 0 ?_ ?_ ?_ ?_
  · rfl
  · rfl
  · simp only [go_sem]
  · trivial
  · rfl
open Classical in
theorem f7_ok (L : List Int) (q0 q1 q2 : Int) (M : List Int) : FnOK sys 7 [ints L, .agg [.v (.int .i64 q0), .v (.int .i64 q1), .v (.int .i64 q2)], ints M] [] (.v (.bool true)) [] := by
  have hmade := f12_val L
  have hodd := f14_ok [116] (mCols L) (mVals L) q0 q1 q2 (made_tab_small L) (by rw [mCols_len]; exact (mMany_bd L).1) (mVals_sq L)
  have hg0 := made_good L
  have hg1 := odd_good hg0 q0 q1 q2
  have hcl : (mCols L).length ≤ 1000 := by have := mCols_len L; have := mMany_bd L; omega
  have hrw : (mVals L).length ≤ 1000 := by have := mRows_bd L; simp [mVals, valsOf]; omega
  have hrr : ∀ r ∈ mVals L, r.length ≤ 1000000 := fun r hr => by rw [mVals_sq L r hr]; omega
  obtain ⟨o1, o2, o3⟩ := odd_len q0 q1 q2 hcl hrw hrr
  have gv0 := good_tab hg0 (by omega) (by omega) hrr
  have gv1 := good_tab hg1 o1 o2 o3
  obtain ⟨cols, hcols⟩ : ∃ c, mCols L = c := ⟨_, rfl⟩
  obtain ⟨rows, hrows⟩ : ∃ r, mVals L = r := ⟨_, rfl⟩
  rw [hcols, hrows] at hmade hodd gv0 gv1
  clear hg0 hg1 hcl hrw hrr o1 o2 o3 hcols hrows
  obtain ⟨n1, hn1⟩ : ∃ n, oddName [116] q0 q1 = n := ⟨_, rfl⟩
  obtain ⟨c1, hc1⟩ : ∃ n, oddCols cols q0 = n := ⟨_, rfl⟩
  obtain ⟨w1, hw1⟩ : ∃ n, oddRows cols rows q0 q1 q2 = n := ⟨_, rfl⟩
  rw [hc1, hw1] at gv1
  rw [hn1, hc1, hw1] at hodd
  clear hn1 hc1 hw1
  obtain ⟨x, hx⟩ : ∃ x, IntKind.wrap .i64 (q1.tdiv 5) = x := ⟨_, rfl⟩
  have u1 : IntKind.wrap .i64 (x.tmod 3 + 3) = x.tmod 3 + 3 := (modN_eq 3 (by omega) (by omega) x).1
  have u2 : (x.tmod 3 + 3).tmod 3 = (modN 3 x : Int) := (modN_eq 3 (by omega) (by omega) x).2.1
  have hk3 := kinds3_at (modN_eq 3 (by omega) (by omega) x).2.2
  have hcell := f13_val (kinds3.getD (modN 3 x) 1) q1
  have gv2 := cell_good (kinds3.getD (modN 3 x) 1) q1
  obtain ⟨v, hv⟩ : ∃ v, (cellV (kinds3.getD (modN 3 x) 1) (mod5 q1)).val = v := ⟨_, rfl⟩
  rw [hv] at hcell gv2
  have k16 := f16_ok q2
  obtain ⟨key, hkey⟩ : ∃ n, names6.getD (mod6 q2) [] = n := ⟨_, rfl⟩
  rw [hkey] at k16
  obtain ⟨M5, hM5⟩ : ∃ l, M.take 5 = l := ⟨_, rfl⟩
  have hM5l : M5.length = min 5 M.length := by rw [← hM5]; simp
  have hM5i : ∀ i, i < 5 → M5[i]? = M[i]? := fun i h => by rw [← hM5, List.getElem?_take, if_pos h]
  obtain ⟨nm, hnm⟩ : ∃ nm : Int → List UInt8, ∀ n, nm n = names6.getD (mod6 n) [] := ⟨_, fun _ => rfl⟩
  obtain ⟨want, hwant⟩ : ∃ want, M5.map nm = want := ⟨_, rfl⟩
  have hwl : want.length ≤ 1000000 := by rw [← hwant]; simp; omega
  have h34 := fun w (h : GoodV w) => f34_ok w key v h.hc h.sm
  have h35 := fun w (h : GoodV w) => f35_ok w key v h.hd h.sm
  have h36 := fun w (h : GoodV w) => f36_ok w want h.hc h.sm hwl
  have h37 := fun w (h : GoodV w) => f37_ok w want h.hd h.sm hwl
  have hrl : ∀ rows, encRs rows = rows.map fun r => [rowV r] := fun rows => by rw [encRs_map, List.map_map]; rfl
  have hlist : ∀ i, i < 3 → ∃ w, ([encV (.mk 5 [] 0 0 0 cols rows), encV (.mk 5 [] 0 0 0 c1 w1), encV v] : List (List D))[i]? = some (encV w) ∧ GoodV w := by
    intro i hi
    rcases i with _ | _ | _ | i
    · exact ⟨_, rfl, gv0⟩
    · exact ⟨_, rfl, gv1⟩
    · exact ⟨_, rfl, gv2⟩
    · omega
  obtain ⟨kd, s, dn, ds, num, cs, rs⟩ := v
  simp only [encV, hrl] at hcell hlist
  refine FnOK.intro Tryz.f7 (by kernel_rfl) rfl rfl [.tmp 6] rfl 0 rfl (Nat.le_of_ble_eq_true rfl) rfl rfl fun E hN h0 => W.bound 2 rfl fun hb => W.code (N := 120) [4, 41, 43, 62] hN ?_
  simp only [List.length_map, maxLen] at hb
  repeat (first | refine st_end rfl ?_ | ((first | refine st1 fun K k => ?_ | refine st2 fun K k => ?_ | refine st3 rfl fun K k => ?_ | refine st4 fun K k => ?_); simp only [go_sem]; refine k _ _ _ _ _ _ ?_; clear k K))
  (first | refine st1 fun K k => ?_ | refine st3 rfl fun K k => ?_); simp only [go_sem]; refine callP (f11_ok) ?_; refine k _ _ _ _ _ _ ?_; clear k K
  repeat (first | refine st_end rfl ?_ | ((first | refine st1 fun K k => ?_ | refine st2 fun K k => ?_ | refine st3 rfl fun K k => ?_ | refine st4 fun K k => ?_); simp only [go_sem]; refine k _ _ _ _ _ _ ?_; clear k K))
  (first | refine st1 fun K k => ?_ | refine st3 rfl fun K k => ?_); simp only [go_sem]; refine callP (hmade) ?_; refine k _ _ _ _ _ _ ?_; clear k K
  repeat (first | refine st_end rfl ?_ | ((first | refine st1 fun K k => ?_ | refine st2 fun K k => ?_ | refine st3 rfl fun K k => ?_ | refine st4 fun K k => ?_); simp only [go_sem]; refine k _ _ _ _ _ _ ?_; clear k K))
  refine W.loopP (fun i : Nat => ⟨[(2, ints M), (4, .ep [.v (.int .i64 q0), .v (.int .i64 q1), .v (.int .i64 q2)]), (7, .v (.bool true)), (8, .ref 0 0), (9, .own 1 i), (10, .v (.int .i64 i))],
      [(0, .box [.s [116], strsD cols, rowsV rows]), (1, .row 9 1 ((M5.take i).map fun n => [.s (nm n)]))], 2, []⟩)
    (fun i => i ≤ M5.length) (fun i => M5.length - i) 0 (Nat.zero_le _) ((Into.nilRow 9 9 1 rfl).trans (Into.le ?_ ?_ (Nat.le_refl _) rfl)) fun i hi => ?_
  · simp only [go_sem]
    exact LeD.refl _
  · simp only [go_sem, List.take_zero, List.map_nil]
  by_cases hi1 : (i : Int) < M.length ∧ (i : Int) < 5
  · obtain ⟨g1, g2⟩ := hi1
    obtain ⟨n, hn⟩ := getS (l := M) (i := i) (by omega)
    have hn5 : M5[i]? = some n := by rw [hM5i i (by omega)]; exact hn
    have w5 : IntKind.wrap .i64 ((i : Int) + 1) = ((i + 1 : Nat) : Int) := wrapTo (by omega)
    have e5 : M5.take (i + 1) = M5.take i ++ [n] := by rw [List.take_add_one, hn5]; rfl
    have hlt : (M5.take i).length = i := by rw [List.length_take]; omega
    have b1 : i + 1 ≤ maxLen := by unfold maxLen; omega
    have b2 : (i + 1) * 16 ≤ 140737488355328 := by omega
    have hk := f16_ok n
    rw [← hnm] at hk
    refine W.code (N := 120) [4, 41, 43, 62] hN ?_
    repeat (first | refine st_end rfl ?_ | ((first | refine st1 fun K k => ?_ | refine st2 fun K k => ?_ | refine st3 rfl fun K k => ?_ | refine st4 fun K k => ?_); simp only [go_sem, g1, g2, decide_true, hn]; refine k _ _ _ _ _ _ ?_; clear k K))
    (first | refine st1 fun K k => ?_ | refine st3 rfl fun K k => ?_); simp only [go_sem]; refine callP (hk) ?_; refine k _ _ _ _ _ _ ?_; clear k K
    repeat (first | refine st_end rfl ?_ | ((first | refine st1 fun K k => ?_ | refine st2 fun K k => ?_ | refine st3 rfl fun K k => ?_ | refine st4 fun K k => ?_); simp only [go_sem, w5, b1, b2, List.length_map, hlt]; refine k _ _ _ _ _ _ ?_; clear k K))
    refine ⟨i + 1, by omega, by omega, (Into.ren h0 [(0, 0), (1, 2)] 2 rfl).trans (Into.le ?_ ?_ (Nat.le_refl _) rfl)⟩
    · simp only [go_sem, newOf]
    · simp only [go_sem, newOf, e5, List.map_append, List.map_cons, List.map_nil]
  · have hie : i = M5.length := by omega
    subst hie
    refine W.mono (Q := fun e st => e = .exit 0 ∧ Into E st ⟨[(4, .ep [.v (.int .i64 q0), .v (.int .i64 q1), .v (.int .i64 q2)]), (7, .v (.bool true)), (8, .ref 0 0), (9, .sl (want.map fun s => [.s s]) 1)], [(0, .box [.s [116], strsD cols, rowsV rows])], 2, []⟩) ?_ ?_
    · have hinto : Into E ⟨[(4, .ep [.v (.int .i64 q0), .v (.int .i64 q1), .v (.int .i64 q2)]), (7, .v (.bool true)), (8, .ref 0 0), (9, .own 1 M5.length)], [(0, .box [.s [116], strsD cols, rowsV rows]), (1, .row 9 1 ((M5.take M5.length).map fun n => [.s (nm n)]))], 2, []⟩ ⟨[(4, .ep [.v (.int .i64 q0), .v (.int .i64 q1), .v (.int .i64 q2)]), (7, .v (.bool true)), (8, .ref 0 0), (9, .sl (want.map fun s => [.s s]) 1)], [(0, .box [.s [116], strsD cols, rowsV rows])], 2, []⟩ := by
        refine (Into.frz [1] ?_).trans (Into.le ?_ ?_ (Nat.le_refl _) rfl)
        · simp only [go_sem]
          intro e he
          obtain ⟨q, _, rfl⟩ := List.mem_map.1 he; rfl
        · have ew : (want.map fun s => [D.s s]) = M5.map fun n => [D.s (nm n)] := by rw [← hwant, List.map_map]; rfl
          simp only [go_sem, List.take_length, List.length_map, ew, decide_true]
        · simp only [go_sem]
      refine W.code (N := 120) [4, 41, 43, 62] hN ?_
      by_cases g1 : (M5.length : Int) < M.length
      · have g2 : ¬ ((M5.length : Int) < 5) := fun g2 => hi1 ⟨g1, g2⟩
        repeat (first | refine st_end rfl ?_ | ((first | refine st1 fun K k => ?_ | refine st2 fun K k => ?_ | refine st3 rfl fun K k => ?_ | refine st4 fun K k => ?_); simp only [go_sem, g1, g2, decide_true, decide_false]; refine k _ _ _ _ _ _ ?_; clear k K))
        simp only [go_sem]
        refine ⟨rfl, Into.trans ?_ hinto⟩
        refine Into.le ?_ ?_ (Nat.le_refl _) rfl
        · simp only [go_sem]
        · simp only [go_sem]
      · repeat (first | refine st_end rfl ?_ | ((first | refine st1 fun K k => ?_ | refine st2 fun K k => ?_ | refine st3 rfl fun K k => ?_ | refine st4 fun K k => ?_); simp only [go_sem, g1, decide_false]; refine k _ _ _ _ _ _ ?_; clear k K))
        simp only [go_sem]
        refine ⟨rfl, Into.trans ?_ hinto⟩
        refine Into.le ?_ ?_ (Nat.le_refl _) rfl
        · simp only [go_sem]
        · simp only [go_sem]
    · rintro e st ⟨rfl, hin⟩
      refine iq hin ?_
      simp only [go_sem]
      repeat (first | refine st_end rfl ?_ | ((first | refine st1 fun K k => ?_ | refine st2 fun K k => ?_ | refine st3 rfl fun K k => ?_ | refine st4 fun K k => ?_); simp only [go_sem, hx, u1, u2, hk3]; refine k _ _ _ _ _ _ ?_; clear k K))
      (first | refine st1 fun K k => ?_ | refine st3 rfl fun K k => ?_); simp only [go_sem]; refine callP (hcell) ?_; refine k _ _ _ _ _ _ ?_; clear k K
      repeat (first | refine st_end rfl ?_ | ((first | refine st1 fun K k => ?_ | refine st2 fun K k => ?_ | refine st3 rfl fun K k => ?_ | refine st4 fun K k => ?_); simp only [go_sem]; refine k _ _ _ _ _ _ ?_; clear k K))
      (first | refine st1 fun K k => ?_ | refine st3 rfl fun K k => ?_); simp only [go_sem]; refine callP (f21_val [116] cols rows) ?_; refine k _ _ _ _ _ _ ?_; clear k K
      repeat (first | refine st_end rfl ?_ | ((first | refine st1 fun K k => ?_ | refine st2 fun K k => ?_ | refine st3 rfl fun K k => ?_ | refine st4 fun K k => ?_); simp only [go_sem]; refine k _ _ _ _ _ _ ?_; clear k K))
      (first | refine st1 fun K k => ?_ | refine st3 rfl fun K k => ?_); simp only [go_sem]; refine callP (hodd) ?_; refine k _ _ _ _ _ _ ?_; clear k K
      repeat (first | refine st_end rfl ?_ | ((first | refine st1 fun K k => ?_ | refine st2 fun K k => ?_ | refine st3 rfl fun K k => ?_ | refine st4 fun K k => ?_); simp only [go_sem]; refine k _ _ _ _ _ _ ?_; clear k K))
      (first | refine st1 fun K k => ?_ | refine st3 rfl fun K k => ?_); simp only [go_sem]; refine callP (f21_val n1 c1 w1) ?_; refine k _ _ _ _ _ _ ?_; clear k K
      repeat (first | refine st_end rfl ?_ | ((first | refine st1 fun K k => ?_ | refine st2 fun K k => ?_ | refine st3 rfl fun K k => ?_ | refine st4 fun K k => ?_); simp only [go_sem]; refine k _ _ _ _ _ _ ?_; clear k K))
      refine W.loopP (fun i : Nat => ⟨[(4, .ep [.v (.int .i64 q0), .v (.int .i64 q1), .v (.int .i64 q2)]), (7, .v (.bool true)), (9, strsD want), (11, .ref 0 0), (62, .sl [[.v (.int .i64 5), .s [], .v (.int .i64 0), .v (.int .i64 0), .v (.int .i64 0), strsD cols, rowsV rows], [.v (.int .i64 5), .s [], .v (.int .i64 0), .v (.int .i64 0), .v (.int .i64 0), strsD c1, rowsV w1], [.v (.int .i64 kd), .s s, .v (.int .i64 dn), .v (.int .i64 ds), .v (.int .i64 num), strsD cs, .sl (rs.map fun r => [rowV r]) 1]] 7), (63, .v (.int .i64 ((3 : Nat) : Int))), (64, .v (.int .i64 i))],
          [(0, .box [.v (.int .i64 kd), .s s, .v (.int .i64 dn), .v (.int .i64 ds), .v (.int .i64 num), strsD cs, .sl (rs.map fun r => [rowV r]) 1])], 1, []⟩)
        (fun i => i ≤ 3) (fun i => 3 - i) 0 (Nat.zero_le _) ((Into.ren h0 [(0, 2)] 1 rfl).trans (Into.le ?_ ?_ (Nat.le_refl _) rfl)) fun i hi => W.code (N := 120) [4, 41, 43, 62] hN ?_
      · simp only [go_sem, newOf]
        exact LeD.refl _
      · simp only [go_sem, newOf]
      repeat (first | refine st_end rfl ?_ | ((first | refine st1 fun K k => ?_ | refine st2 fun K k => ?_ | refine st3 rfl fun K k => ?_ | refine st4 fun K k => ?_); simp only [go_sem]; refine k _ _ _ _ _ _ ?_; clear k K))
      refine st_cond fun A B a b => ?_; simp only [go_sem]; refine ⟨fun g => a ?_, fun g => b ?_⟩ <;> clear a b A B
      · obtain ⟨w, hget, hgood⟩ := hlist i (by omega)
        have f34 := h34 w hgood
        have f35 := h35 w hgood
        have f36 := h36 w hgood
        have f37 := h37 w hgood
        obtain ⟨p, hp⟩ : ∃ p, whereT w key (.mk kd s dn ds num cs rs) = p := ⟨_, rfl⟩
        obtain ⟨p2, hp2⟩ : ∃ p, pickT w want = p := ⟨_, rfl⟩
        rw [hp] at f34 f35
        rw [hp2] at f36 f37
        obtain ⟨⟨k2, s2, dn2, ds2, num2, c2, rw2⟩, err⟩ := p
        obtain ⟨⟨k3, s3, dn3, ds3, num3, c3, rw3⟩, err3⟩ := p2
        simp only at f34 f35 f36 f37
        have ha := f18_ok (.mk k2 s2 dn2 ds2 num2 c2 rw2) (.mk k2 s2 dn2 ds2 num2 c2 rw2)
        have hb := f18_ok (.mk k3 s3 dn3 ds3 num3 c3 rw3) (.mk k3 s3 dn3 ds3 num3 c3 rw3)
        rw [decide_eq_true rfl] at ha hb
        clear hp hp2 hgood
        obtain ⟨k1, s1, dn1, ds1, num1, cc1, rr1⟩ := w
        simp only [encV, hrl] at f34 f35 f36 f37 ha hb hget
        have w5 : IntKind.wrap .i64 ((i : Int) + 1) = ((i + 1 : Nat) : Int) := wrapTo (by omega)
        simp only [go_sem] at hget
        repeat (first | refine st_end rfl ?_ | ((first | refine st1 fun K k => ?_ | refine st2 fun K k => ?_ | refine st3 rfl fun K k => ?_ | refine st4 fun K k => ?_); simp only [go_sem, hget]; refine k _ _ _ _ _ _ ?_; clear k K))
        (first | refine st1 fun K k => ?_ | refine st3 rfl fun K k => ?_); simp only [go_sem]; refine callP (k16) ?_; refine k _ _ _ _ _ _ ?_; clear k K
        repeat (first | refine st_end rfl ?_ | ((first | refine st1 fun K k => ?_ | refine st2 fun K k => ?_ | refine st3 rfl fun K k => ?_ | refine st4 fun K k => ?_); simp only [go_sem]; refine k _ _ _ _ _ _ ?_; clear k K))
        (first | refine st1 fun K k => ?_ | refine st3 rfl fun K k => ?_); simp only [go_sem]; refine callP (f34) ?_; refine k _ _ _ _ _ _ ?_; clear k K
        repeat (first | refine st_end rfl ?_ | ((first | refine st1 fun K k => ?_ | refine st2 fun K k => ?_ | refine st3 rfl fun K k => ?_ | refine st4 fun K k => ?_); simp only [go_sem]; refine k _ _ _ _ _ _ ?_; clear k K))
        (first | refine st1 fun K k => ?_ | refine st3 rfl fun K k => ?_); simp only [go_sem]; refine callP (k16) ?_; refine k _ _ _ _ _ _ ?_; clear k K
        repeat (first | refine st_end rfl ?_ | ((first | refine st1 fun K k => ?_ | refine st2 fun K k => ?_ | refine st3 rfl fun K k => ?_ | refine st4 fun K k => ?_); simp only [go_sem]; refine k _ _ _ _ _ _ ?_; clear k K))
        (first | refine st1 fun K k => ?_ | refine st3 rfl fun K k => ?_); simp only [go_sem]; refine callP (f35) ?_; refine k _ _ _ _ _ _ ?_; clear k K
        repeat (first | refine st_end rfl ?_ | ((first | refine st1 fun K k => ?_ | refine st2 fun K k => ?_ | refine st3 rfl fun K k => ?_ | refine st4 fun K k => ?_); simp only [go_sem]; refine k _ _ _ _ _ _ ?_; clear k K))
        (first | refine st1 fun K k => ?_ | refine st3 rfl fun K k => ?_); simp only [go_sem]; refine callP (f36) ?_; refine k _ _ _ _ _ _ ?_; clear k K
        repeat (first | refine st_end rfl ?_ | ((first | refine st1 fun K k => ?_ | refine st2 fun K k => ?_ | refine st3 rfl fun K k => ?_ | refine st4 fun K k => ?_); simp only [go_sem]; refine k _ _ _ _ _ _ ?_; clear k K))
        (first | refine st1 fun K k => ?_ | refine st3 rfl fun K k => ?_); simp only [go_sem]; refine callP (f37) ?_; refine k _ _ _ _ _ _ ?_; clear k K
        repeat (first | refine st_end rfl ?_ | ((first | refine st1 fun K k => ?_ | refine st2 fun K k => ?_ | refine st3 rfl fun K k => ?_ | refine st4 fun K k => ?_); simp only [go_sem, bne_self_eq_false]; refine k _ _ _ _ _ _ ?_; clear k K))
        (first | refine st1 fun K k => ?_ | refine st3 rfl fun K k => ?_); simp only [go_sem]; refine callP (ha) ?_; refine k _ _ _ _ _ _ ?_; clear k K
        repeat (first | refine st_end rfl ?_ | ((first | refine st1 fun K k => ?_ | refine st2 fun K k => ?_ | refine st3 rfl fun K k => ?_ | refine st4 fun K k => ?_); simp only [go_sem, bne_self_eq_false]; refine k _ _ _ _ _ _ ?_; clear k K))
        (first | refine st1 fun K k => ?_ | refine st3 rfl fun K k => ?_); simp only [go_sem]; refine callP (hb) ?_; refine k _ _ _ _ _ _ ?_; clear k K
        repeat (first | refine st_end rfl ?_ | ((first | refine st1 fun K k => ?_ | refine st2 fun K k => ?_ | refine st3 rfl fun K k => ?_ | refine st4 fun K k => ?_); simp only [go_sem, bne_self_eq_false, w5]; refine k _ _ _ _ _ _ ?_; clear k K))
        refine ⟨i + 1, by omega, by omega, (Into.ren h0 [(0, 0)] 1 rfl).trans (Into.le ?_ ?_ (Nat.le_refl _) rfl)⟩
        · simp only [go_sem, newOf]
        · simp only [go_sem, newOf]
      · refine iq Into.refl ?_
        repeat (first | refine st_end rfl ?_ | ((first | refine st1 fun K k => ?_ | refine st2 fun K k => ?_ | refine st3 rfl fun K k => ?_ | refine st4 fun K k => ?_); simp only [go_sem]; refine k _ _ _ _ _ _ ?_; clear k K))
        refine Done.t1 ?_
        simp only [go_sem]
end Go.Proofs.YtjgooecohepkoaaGreatDoor
