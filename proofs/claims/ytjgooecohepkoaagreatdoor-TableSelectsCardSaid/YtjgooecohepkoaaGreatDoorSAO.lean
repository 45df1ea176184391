/- Contracts of the functions that the statement reaches. -/
import Derived.Test.YtjgooecohepkoaaGreatDoorSAN
set_option linter.unusedVariables false
set_option linter.unusedSimpArgs false
namespace Go.Proofs.YtjgooecohepkoaaGreatDoor
open Go Go.Abs
set_option linter.unusedSimpArgs false
set_option maxHeartbeats 2000000
/-! ### Columns that are picked -/
def okW (cols want : List (List UInt8)) : Prop := ∀ (i : Nat) (w : List UInt8), want[i]? = some w → w ∈ cols ∧ w ∉ want.take i
def pickR (cols want : List (List UInt8)) (r : List Val) : List Val := want.map fun w => r.getD (ix cols w) zeroV
open Classical in
noncomputable def pickC (cols : List (List UInt8)) (rows : List (List Val)) (want : List (List UInt8)) : Val × Int :=
  if okW cols want then (.mk 5 [] 0 0 0 want (rows.map (pickR cols want)), 0) else (zeroV, 13)
noncomputable def pickT (t : Val) (want : List (List UInt8)) : Val × Int :=
  if isTab t then (match t with | .mk _ _ _ _ _ cols rows => pickC cols rows want) else (zeroV, 14)
open Classical in
theorem f37_ok (t : Val) (want : List (List UInt8)) (ht : t.held) (hsm : Small t) (hw : want.length ≤ 1000000) :
    FnOK sys 37 [.agg (encV t), strsD want] [] (.tup [.agg (encV (pickT t want).1), .v (.int .i64 (pickT t want).2)]) [] := by
  have h68 := f68_ok t ht
  obtain ⟨kd0, s0, dn0, ds0, num0, cols, rows⟩ := t
  obtain ⟨_, _, _, _, _, _, _, hl1, hl2, hl3, hl4⟩ := id hsm
  have hrl : encRs rows = rows.map fun r => [rowV r] := by rw [encRs_map, List.map_map]; rfl
  cases hr : isTab (.mk kd0 s0 dn0 ds0 num0 cols rows) with
  | false =>
    have e : pickT (.mk kd0 s0 dn0 ds0 num0 cols rows) want = (zeroV, 14) := by simp [pickT, hr]
    rw [e]
    refine FnOK.leRes ?_ (zeroTup 14)
    rw [hr] at h68
    simp only [encV] at h68 ⊢
    refine FnOK.intro Tryz.f37 (by kernel_rfl) rfl rfl [.cell 4 33, .tmp 5] rfl 0 rfl (Nat.le_of_ble_eq_true rfl) rfl rfl fun E hN h0 => W.code (N := 90) [2, 50, 81, 86] hN ?_
    repeat (first | refine st_end rfl ?_ | ((first | refine st1 fun K k => ?_ | refine st2 fun K k => ?_ | refine st3 rfl fun K k => ?_ | refine st4 fun K k => ?_); simp only [go_sem]; refine k _ _ _ _ _ _ ?_; clear k K))
    (first | refine st1 fun K k => ?_ | refine st3 rfl fun K k => ?_); simp only [go_sem]; refine callP (h68) ?_; refine k _ _ _ _ _ _ ?_; clear k K
    repeat (first | refine st_end rfl ?_ | ((first | refine st1 fun K k => ?_ | refine st2 fun K k => ?_ | refine st3 rfl fun K k => ?_ | refine st4 fun K k => ?_); simp only [go_sem]; refine k _ _ _ _ _ _ ?_; clear k K))
    refine Done.mk (.inr rfl) Into.refl ?_ [] 0 ?_ ?_ ?_ ?_
    · rfl
    · rfl
    · simp only [go_sem, zeroA]
    · trivial
    · rfl
  | true =>
  have hlen := isTab_rows hr
  have e : pickT (.mk kd0 s0 dn0 ds0 num0 cols rows) want = pickC cols rows want := by simp [pickT, hr]
  rw [e]
  rw [hr] at h68
  obtain ⟨R, hR⟩ : ∃ R, pickC cols rows want = R := ⟨_, rfl⟩
  have hR1 : ¬ okW cols want → R = (zeroV, 13) := fun h => by rw [← hR]; unfold pickC; rw [if_neg h]
  have hR2 : okW cols want → R = (.mk 5 [] 0 0 0 want (rows.map (pickR cols want)), 0) := fun h => by rw [← hR]; unfold pickC; rw [if_pos h]
  rw [hR]
  clear e hR
  refine FnOK.intro Tryz.f37 (by kernel_rfl) rfl rfl [.cell 4 33, .tmp 5] rfl 0 rfl (Nat.le_of_ble_eq_true rfl) (by simp only [go_sem, subL_encV]) rfl fun E hN h0 => W.code (N := 90) [2, 50, 81, 86] hN ?_
  simp only [encV, hrl] at h68 ⊢
  repeat (first | refine st_end rfl ?_ | ((first | refine st1 fun K k => ?_ | refine st2 fun K k => ?_ | refine st3 rfl fun K k => ?_ | refine st4 fun K k => ?_); simp only [go_sem]; refine k _ _ _ _ _ _ ?_; clear k K))
  (first | refine st1 fun K k => ?_ | refine st3 rfl fun K k => ?_); simp only [go_sem]; refine callP (h68) ?_; refine k _ _ _ _ _ _ ?_; clear k K
  repeat (first | refine st_end rfl ?_ | ((first | refine st1 fun K k => ?_ | refine st2 fun K k => ?_ | refine st3 rfl fun K k => ?_ | refine st4 fun K k => ?_); simp only [go_sem]; refine k _ _ _ _ _ _ ?_; clear k K))
  refine W.loopP (fun i : Nat => ⟨[(1, strsD want), (2, .ep [.v (.int .i64 kd0), .s s0, .v (.int .i64 dn0), .v (.int .i64 ds0), .v (.int .i64 num0), strsD cols, rowsV rows]), (4, .ref 0 0), (7, .ref 1 0), (8, .v (.int .i64 i))],
      [(0, .box [.v (.int .i64 0), .s [], .v (.int .i64 0), .v (.int .i64 0), .v (.int .i64 0), .v (.slice none 0 0), .v (.slice none 0 0)]), (1, .box [.v (.int .i64 5), .s [], .v (.int .i64 0), .v (.int .i64 0), .v (.int .i64 0), .own 2 i, .v (.slice none 0 0)]), (2, .row 9 1 ((want.take i).map fun s => [.s s]))], 3, []⟩)
    (fun i => i ≤ want.length ∧ ∀ (j : Nat) (w : List UInt8), j < i → want[j]? = some w → w ∈ cols ∧ w ∉ want.take j) (fun i => want.length - i) 0 ⟨Nat.zero_le _, fun j w h => absurd h (Nat.not_lt_zero _)⟩ ((Into.nilCell 1 5 9 1 rfl rfl).trans (Into.le ?_ ?_ (Nat.le_refl _) rfl)) fun i hi => W.code (N := 90) [2, 50, 81, 86] hN ?_
  · simp only [go_sem]
    exact LeD.refl _
  · simp only [go_sem, List.take_zero, List.map_nil]
  obtain ⟨hi1, hi2⟩ := hi
  repeat (first | refine st_end rfl ?_ | ((first | refine st1 fun K k => ?_ | refine st2 fun K k => ?_ | refine st3 rfl fun K k => ?_ | refine st4 fun K k => ?_); simp only [go_sem]; refine k _ _ _ _ _ _ ?_; clear k K))
  refine st_cond fun A B a b => ?_; simp only [go_sem]; refine ⟨fun g => a ?_, fun g => b ?_⟩ <;> clear a b A B
  · obtain ⟨w, hwi⟩ := getS (l := want) (i := i) (by omega)
    have w5 : IntKind.wrap .i64 ((i : Int) + 1) = ((i + 1 : Nat) : Int) := wrapTo (by omega)
    have e5 : want.take (i + 1) = want.take i ++ [w] := by rw [List.take_add_one, hwi]; rfl
    have htk : (want.map fun s => [D.s s]).take i = (want.take i).map fun s => [D.s s] := (List.map_take ..).symm
    have hi3 : (i : Int) ≤ (want.length : Int) := by omega
    have b1 : i + 1 ≤ maxLen := by unfold maxLen; omega
    have b2 : (i + 1) * 16 ≤ 140737488355328 := by omega
    have f56 := f56_ok (want.take i) w
    repeat (first | refine st_end rfl ?_ | ((first | refine st1 fun K k => ?_ | refine st2 fun K k => ?_ | refine st3 rfl fun K k => ?_ | refine st4 fun K k => ?_); simp only [go_sem, hwi]; refine k _ _ _ _ _ _ ?_; clear k K))
    (first | refine st1 fun K k => ?_ | refine st3 rfl fun K k => ?_); simp only [go_sem]; refine callP (f56_ok cols w) ?_; refine k _ _ _ _ _ _ ?_; clear k K
    by_cases c1 : w ∈ cols
    · obtain ⟨i1, i2⟩ := ix_eq c1
      have n1 : ¬ ((ix cols w : Int) < 0) := by omega
      repeat (first | refine st_end rfl ?_ | ((first | refine st1 fun K k => ?_ | refine st2 fun K k => ?_ | refine st3 rfl fun K k => ?_ | refine st4 fun K k => ?_); simp only [go_sem, i1, n1, decide_false, hwi, hi3, htk]; refine k _ _ _ _ _ _ ?_; clear k K))
      (first | refine st1 fun K k => ?_ | refine st3 rfl fun K k => ?_); simp only [go_sem, htk, hi3]
      refine callP f56 ?_
      refine k _ _ _ _ _ _ ?_; clear k K
      by_cases c2 : w ∈ want.take i
      · obtain ⟨j1, j2⟩ := ix_eq c2
        have n2 : (0 : Int) ≤ (ix (want.take i) w : Int) := by omega
        rw [hR1 fun h => (h i w hwi).2 c2]
        repeat (first | refine st_end rfl ?_ | ((first | refine st1 fun K k => ?_ | refine st2 fun K k => ?_ | refine st3 rfl fun K k => ?_ | refine st4 fun K k => ?_); simp only [go_sem, j1, n2, decide_true]; refine k _ _ _ _ _ _ ?_; clear k K))
        simp only [go_sem]
        refine iq Into.refl (Done.into (Into.le (st' := ⟨[(4, .ref 0 0), (5, .v (.int .i64 13))], [(0, .box (encV zeroV))], 3, []⟩) ?_ ?_ (Nat.le_refl _) rfl) (Done.mk (.inr rfl) Into.refl ?_ [] 0 ?_ ?_ ?_ ?_))
        · simp only [go_sem]
        · simp only [go_sem]
          exact LeO.box zeroLe
        · rfl
        · rfl
        · simp only [go_sem, encV, zeroV]
        · trivial
        · rfl
      · have n2 := ix_neg c2
        have n3 : ¬ ((0 : Int) ≤ idxFrom (want.take i) w 0) := by omega
        have hlt : (want.take i).length = i := by rw [List.length_take]; omega
        repeat (first | refine st_end rfl ?_ | ((first | refine st1 fun K k => ?_ | refine st2 fun K k => ?_ | refine st3 rfl fun K k => ?_ | refine st4 fun K k => ?_); simp only [go_sem, n3, decide_false, hwi, w5, b1, b2, List.length_map, hlt]; refine k _ _ _ _ _ _ ?_; clear k K))
        refine ⟨i + 1, ⟨by omega, fun j w' hj hw' => ?_⟩, by omega, (Into.ren h0 [(0, 0), (1, 1), (2, 3)] 3 rfl).trans (Into.le ?_ ?_ (Nat.le_refl _) rfl)⟩
        · by_cases hji : j = i
          · subst hji
            obtain rfl : w = w' := by rw [hwi] at hw'; cases hw'; rfl
            exact ⟨c1, c2⟩
          · exact hi2 j w' (by omega) hw'
        · simp only [go_sem, newOf]
        · simp only [go_sem, newOf, e5, List.map_append, List.map_cons, List.map_nil]
    · have n1 := ix_neg c1
      rw [hR1 fun h => c1 (h i w hwi).1]
      repeat (first | refine st_end rfl ?_ | ((first | refine st1 fun K k => ?_ | refine st2 fun K k => ?_ | refine st3 rfl fun K k => ?_ | refine st4 fun K k => ?_); simp only [go_sem, n1, decide_true]; refine k _ _ _ _ _ _ ?_; clear k K))
      simp only [go_sem]
      refine iq Into.refl (Done.into (Into.le (st' := ⟨[(4, .ref 0 0), (5, .v (.int .i64 13))], [(0, .box (encV zeroV))], 3, []⟩) ?_ ?_ (Nat.le_refl _) rfl) (Done.mk (.inr rfl) Into.refl ?_ [] 0 ?_ ?_ ?_ ?_))
      · simp only [go_sem]
      · simp only [go_sem]
        exact LeO.box zeroLe
      · rfl
      · rfl
      · simp only [go_sem, encV, zeroV]
      · trivial
      · rfl
  · obtain rfl : i = want.length := by omega
    have ok : okW cols want := fun j w hj => hi2 j w (List.getElem?_eq_some_iff.1 hj).1 hj
    rw [hR2 ok]
    clear hR1 hR2 hi2
    have hrl2 : encRs (rows.map (pickR cols want)) = rows.map fun r => [rowV (pickR cols want r)] := by rw [encRs_map, List.map_map]; simp only [List.map_map]; rfl
    refine iq (Into.frz [2] ?_) ?_
    · simp only [go_sem]
      intro e he
      obtain ⟨q, _, rfl⟩ := List.mem_map.1 he; rfl
    simp only [go_sem, List.take_length, List.length_map]
    repeat (first | refine st_end rfl ?_ | ((first | refine st1 fun K k => ?_ | refine st2 fun K k => ?_ | refine st3 rfl fun K k => ?_ | refine st4 fun K k => ?_); simp only [go_sem]; refine k _ _ _ _ _ _ ?_; clear k K))
    refine W.loopP (fun i : Nat => ⟨[(1, strsD want), (2, .ep [.v (.int .i64 kd0), .s s0, .v (.int .i64 dn0), .v (.int .i64 ds0), .v (.int .i64 num0), strsD cols, rowsV rows]), (4, .ref 0 0), (7, .ref 1 0), (9, .v (.int .i64 i))],
      [(0, .box [.v (.int .i64 0), .s [], .v (.int .i64 0), .v (.int .i64 0), .v (.int .i64 0), .v (.slice none 0 0), .v (.slice none 0 0)]), (1, .box [.v (.int .i64 5), .s [], .v (.int .i64 0), .v (.int .i64 0), .v (.int .i64 0), strsD want, .own 3 i]), (3, .row 45 1 ((rows.take i).map fun r => [rowV (pickR cols want r)]))], 4, []⟩)
      (fun i => i ≤ rows.length) (fun i => rows.length - i) 0 (Nat.zero_le _) ((Into.nilCell 1 6 45 1 rfl rfl).trans (Into.le ?_ ?_ (Nat.le_refl _) rfl)) fun i hi => W.code (N := 90) [2, 50, 81, 86] hN ?_
    · simp only [go_sem]
      exact LeD.refl _
    · simp only [go_sem, List.take_zero, List.map_nil]
    repeat (first | refine st_end rfl ?_ | ((first | refine st1 fun K k => ?_ | refine st2 fun K k => ?_ | refine st3 rfl fun K k => ?_ | refine st4 fun K k => ?_); simp only [go_sem]; refine k _ _ _ _ _ _ ?_; clear k K))
    refine st_cond fun A B a b => ?_; simp only [go_sem]; refine ⟨fun g => a ?_, fun g => b ?_⟩ <;> clear a b A B
    · obtain ⟨r, hr⟩ := getS (l := rows) (i := i) (by omega)
      have hrl := hlen r (List.mem_of_getElem? hr)
      have w5 : IntKind.wrap .i64 ((i : Int) + 1) = ((i + 1 : Nat) : Int) := wrapTo (by omega)
      have e5 : rows.take (i + 1) = rows.take i ++ [r] := by rw [List.take_add_one, hr]; rfl
      have hlt : (rows.take i).length = i := by rw [List.length_take]; omega
      have b1 : i + 1 ≤ maxLen := by unfold maxLen; omega
      have b2 : (i + 1) * 24 ≤ 140737488355328 := by omega
      repeat (first | refine st_end rfl ?_ | ((first | refine st1 fun K k => ?_ | refine st2 fun K k => ?_ | refine st3 rfl fun K k => ?_ | refine st4 fun K k => ?_); simp only [go_sem]; refine k _ _ _ _ _ _ ?_; clear k K))
      refine W.loopP (fun j : Nat => ⟨[(1, strsD want), (2, .ep [.v (.int .i64 kd0), .s s0, .v (.int .i64 dn0), .v (.int .i64 ds0), .v (.int .i64 num0), strsD cols, rowsV rows]), (4, .ref 0 0), (7, .ref 1 0), (9, .v (.int .i64 i)), (10, .own 4 j), (11, .v (.int .i64 j))],
        [(0, .box [.v (.int .i64 0), .s [], .v (.int .i64 0), .v (.int .i64 0), .v (.int .i64 0), .v (.slice none 0 0), .v (.slice none 0 0)]), (1, .box [.v (.int .i64 5), .s [], .v (.int .i64 0), .v (.int .i64 0), .v (.int .i64 0), strsD want, .own 3 i]), (3, .row 45 1 ((rows.take i).map fun r => [rowV (pickR cols want r)])), (4, .row 33 7 ((want.take j).map fun w => encV (r.getD (ix cols w) zeroV)))], 5, []⟩)
        (fun j => j ≤ want.length) (fun j => want.length - j) 0 (Nat.zero_le _) ((Into.nilRow 10 33 7 rfl).trans (Into.le ?_ ?_ (Nat.le_refl _) rfl)) fun j hj => W.code (N := 90) [2, 50, 81, 86] hN ?_
      · simp only [go_sem]
        exact LeD.refl _
      · simp only [go_sem, List.take_zero, List.map_nil]
      repeat (first | refine st_end rfl ?_ | ((first | refine st1 fun K k => ?_ | refine st2 fun K k => ?_ | refine st3 rfl fun K k => ?_ | refine st4 fun K k => ?_); simp only [go_sem]; refine k _ _ _ _ _ _ ?_; clear k K))
      refine st_cond fun A B a b => ?_; simp only [go_sem]; refine ⟨fun g => a ?_, fun g => b ?_⟩ <;> clear a b A B
      · obtain ⟨w, hwj⟩ := getS (l := want) (i := j) (by omega)
        have c1 := (ok j w hwj).1
        obtain ⟨i1, i2⟩ := ix_eq c1
        obtain ⟨x, hx⟩ := getS (l := r) (i := ix cols w) (by omega)
        have x5 : IntKind.wrap .i64 ((j : Int) + 1) = ((j + 1 : Nat) : Int) := wrapTo (by omega)
        have y5 : want.take (j + 1) = want.take j ++ [w] := by rw [List.take_add_one, hwj]; rfl
        have ylt : (want.take j).length = j := by rw [List.length_take]; omega
        have d1 : j + 1 ≤ maxLen := by unfold maxLen; omega
        have d2 : (j + 1) * 96 ≤ 140737488355328 := by omega
        have xg : r.getD (ix cols w) zeroV = x := getD_some hx
        have fx : free.freeL (encV x) = true := freeL_enc x
        have ax := allOne_enc x
        repeat (first | refine st_end rfl ?_ | ((first | refine st1 fun K k => ?_ | refine st2 fun K k => ?_ | refine st3 rfl fun K k => ?_ | refine st4 fun K k => ?_); simp only [go_sem, hwj, hr, hx]; refine k _ _ _ _ _ _ ?_; clear k K))
        (first | refine st1 fun K k => ?_ | refine st3 rfl fun K k => ?_); simp only [go_sem]; refine callP (f56_ok cols w) ?_; refine k _ _ _ _ _ _ ?_; clear k K
        repeat (first | refine st_end rfl ?_ | ((first | refine st1 fun K k => ?_ | refine st2 fun K k => ?_ | refine st3 rfl fun K k => ?_ | refine st4 fun K k => ?_); simp only [go_sem, i1, hr, hx, encV_len, encV_take, Nat.le_refl, x5, d1, d2, List.length_map, ylt, fx, ax]; refine k _ _ _ _ _ _ ?_; clear k K))
        refine ⟨j + 1, by omega, by omega, (Into.ren h0 [(0, 0), (1, 1), (3, 3), (4, 5)] 5 rfl).trans (Into.le ?_ ?_ (Nat.le_refl _) rfl)⟩
        · simp only [go_sem, newOf]
        · simp only [go_sem, newOf, y5, List.map_append, List.map_cons, List.map_nil, xg, subL_encV]
      · obtain rfl : j = want.length := by omega
        refine iq (Into.frz [4] ?_) ?_
        · simp only [go_sem]
          intro e he
          obtain ⟨q, _, rfl⟩ := List.mem_map.1 he
          exact freeL_enc _
        have ep : (pickR cols want r).map encV = want.map fun w => encV (r.getD (ix cols w) zeroV) := by
          unfold pickR
          rw [List.map_map]; rfl
        simp only [go_sem, List.take_length, List.length_map]
        repeat (first | refine st_end rfl ?_ | ((first | refine st1 fun K k => ?_ | refine st2 fun K k => ?_ | refine st3 rfl fun K k => ?_ | refine st4 fun K k => ?_); simp only [go_sem, w5, b1, b2, List.length_map, hlt]; refine k _ _ _ _ _ _ ?_; clear k K))
        refine ⟨i + 1, by omega, by omega, (Into.ren h0 [(0, 0), (1, 1), (3, 5)] 4 rfl).trans (Into.le ?_ ?_ (Nat.le_refl _) rfl)⟩
        · simp only [go_sem, newOf]
        · simp only [go_sem, newOf, e5, List.map_append, List.map_cons, List.map_nil, ep]
    · obtain rfl : i = rows.length := by omega
      refine iq (Into.frz [3] ?_) ?_
      · simp only [go_sem]
        intro e he
        obtain ⟨q, _, rfl⟩ := List.mem_map.1 he; rfl
      simp only [go_sem, List.take_length, List.length_map]
      repeat (first | refine st_end rfl ?_ | ((first | refine st1 fun K k => ?_ | refine st2 fun K k => ?_ | refine st3 rfl fun K k => ?_ | refine st4 fun K k => ?_); simp only [go_sem]; refine k _ _ _ _ _ _ ?_; clear k K))
      refine Done.mk (.inr rfl) Into.refl ?_ [] 0 ?_ ?_ ?_ ?_
      · rfl
      · rfl
      · simp only [go_sem, encV, hrl2]
      · trivial
      · rfl
end Go.Proofs.YtjgooecohepkoaaGreatDoor
namespace Go.Proofs.YtjgooecohepkoaaGreatDoor
open Go Go.Abs
set_option linter.unusedSimpArgs false
set_option maxHeartbeats 2000000
/-! ### Names with their places, as a map's entries -/
def idxM (es : List (List UInt8)) (f : List UInt8 → Nat) : List (Value × D) := es.map fun s => (.string ⟨⟨s⟩⟩, .v (.int .i64 (f s)))
theorem idxM_kindP (es : List (List UInt8)) (f : List UInt8 → Nat) : ∀ e ∈ idxM es f, (match TK.str, e.1 with | .str, .string _ => true | .int k, .int k' _ => k == k' | _, _ => false) = true := by
  intro e he
  obtain ⟨s, _, rfl⟩ := List.mem_map.1 he
  rfl
theorem keyEq_str (x y : List UInt8) : keyEq (.string ⟨⟨x⟩⟩) (.string ⟨⟨y⟩⟩) = decide (x = y) := by
  by_cases h : x = y
  · subst h; simp [keyEq]
  · simp [keyEq, h]
theorem idxM_some {f : List UInt8 → Nat} {x : List UInt8} : ∀ {es : List (List UInt8)}, x ∈ es → findM (idxM es f) (.string ⟨⟨x⟩⟩) = some (.v (.int .i64 (f x)))
  | y :: r, h => by
    by_cases e : x = y
    · subst e
      simp [idxM, findM, keyEq_str]
    · have ih := idxM_some (f := f) (es := r) (x := x) (by simpa [e] using h)
      simp only [idxM, findM, List.map_cons] at ih ⊢
      rw [List.find?_cons, keyEq_str]
      simp only [e, decide_false]
      exact ih
theorem idxM_none {f : List UInt8 → Nat} {x : List UInt8} : ∀ {es : List (List UInt8)}, x ∉ es → findM (idxM es f) (.string ⟨⟨x⟩⟩) = none
  | [], _ => rfl
  | y :: r, h => by
    have e : x ≠ y := fun e => h (by simp [e])
    have ih := idxM_none (f := f) (es := r) (x := x) (fun q => h (by simp [q]))
    simp only [idxM, findM, List.map_cons] at ih ⊢
    rw [List.find?_cons, keyEq_str]
    simp only [e, decide_false]
    exact ih
theorem idxM_put {f : List UInt8 → Nat} {x : List UInt8} {es : List (List UInt8)} (h : x ∉ es) : putM (idxM es f) (.string ⟨⟨x⟩⟩) (.v (.int .i64 (f x))) = idxM (es ++ [x]) f := by
  rw [findM_none (idxM_none h)]
  simp [idxM]
theorem idxM_del {f : List UInt8 → Nat} {x : List UInt8} : ∀ {es : List (List UInt8)}, es.Nodup → delM (idxM es f) (.string ⟨⟨x⟩⟩) = idxM (es.filter fun c => decide (c ≠ x)) f
  | [], _ => rfl
  | y :: r, h => by
    have hn := List.nodup_cons.1 h
    have ih := idxM_del (f := f) (es := r) (x := x) hn.2
    by_cases e : x = y
    · subst e
      have hf : r.filter (fun c => decide (c ≠ x)) = r := List.filter_eq_self.2 fun c hc => by
        have : c ≠ x := fun e => hn.1 (e ▸ hc)
        simp [this]
      have hd : delM (idxM (x :: r) f) (.string ⟨⟨x⟩⟩) = idxM r f := by simp [idxM, delM, keyEq_str]
      rw [hd, List.filter_cons]
      simp only [ne_eq, not_true_eq_false, decide_false, Bool.false_eq_true, if_false]
      simp only [ne_eq] at hf
      rw [hf]
    · have e' : y ≠ x := fun q => e q.symm
      have hd : delM (idxM (y :: r) f) (.string ⟨⟨x⟩⟩) = (.string ⟨⟨y⟩⟩, .v (.int .i64 (f y))) :: delM (idxM r f) (.string ⟨⟨x⟩⟩) := by
        simp only [idxM, List.map_cons, delM, keyEq_str, e, decide_false, Bool.false_eq_true, if_false]
      rw [hd, ih, List.filter_cons]
      simp only [e', ne_eq, not_false_eq_true, decide_true, if_true]
      rfl
theorem isTab_nodup {kd : Int} {s : List UInt8} {dn ds num : Int} {cols : List (List UInt8)} {rows : List (List Val)} (h : isTab (.mk kd s dn ds num cols rows) = true) : cols.Nodup := by
  simp only [isTab, Val.kind, Bool.and_eq_true, beq_iff_eq] at h
  obtain ⟨rfl, h⟩ := h
  simp only [rightV, if_true, Bool.and_eq_true, rowsR, decide_eq_true_eq] at h
  exact h.2.1.2.2
theorem idxFrom_nd {c : List UInt8} : ∀ {l : List (List UInt8)} (n i : Nat), l.Nodup → l[i]? = some c → idxFrom l c n = ((n + i : Nat) : Int)
  | [], _, _, _, h => by simp at h
  | y :: r, n, 0, _, h => by
    simp at h; subst h
    simp [idxFrom]
  | y :: r, n, i + 1, hn, h => by
    have h' : r[i]? = some c := by simpa using h
    have hne : c ≠ y := fun e => (List.nodup_cons.1 hn).1 (e ▸ List.mem_of_getElem? h')
    unfold idxFrom
    rw [if_neg hne, idxFrom_nd (n + 1) i (List.nodup_cons.1 hn).2 h']
    congr 1
    omega
theorem ix_at {cols : List (List UInt8)} (hn : cols.Nodup) {i : Nat} {c : List UInt8} (h : cols[i]? = some c) : ix cols c = i := by
  unfold ix
  rw [idxFrom_nd 0 i hn h]
  simp
theorem nodup_at {α : Type} {l : List α} (hn : l.Nodup) {i : Nat} {c : α} (h : l[i]? = some c) : c ∉ l.take i := by
  intro hm
  rw [← List.take_append_drop i l, drop_at h] at hn
  exact (List.nodup_append.1 hn).2.2 c hm c (by simp) rfl
/-! ### table.Pick -/
theorem zeroV_small : Small zeroV := Small.mk _ _ _ _ _ _ _ (by simp) (by simp) (by simp) (by simp)
theorem pick_small {cols want : List (List UInt8)} {rows : List (List Val)} {kd : Int} {s : List UInt8} {dn ds num : Int} (hsm : Small (.mk kd s dn ds num cols rows)) (hw : want.length ≤ 1000000) : Small (.mk 5 [] 0 0 0 want (rows.map (pickR cols want))) := by
  obtain ⟨_, _, _, _, _, _, _, hl1, hl2, hl3, hl4⟩ := hsm
  refine Small.mk _ _ _ _ _ _ _ hw (by simpa using hl2) ?_ ?_
  · intro row h
    obtain ⟨r, _, rfl⟩ := List.mem_map.1 h
    simpa [pickR] using hw
  · intro row h v hv
    obtain ⟨r, hr, rfl⟩ := List.mem_map.1 h
    obtain ⟨w, _, rfl⟩ := List.mem_map.1 hv
    rw [List.getD_eq_getElem?_getD]
    cases e : r[ix cols w]? with
    | none => exact zeroV_small
    | some x => exact hl4 r hr x (List.mem_of_getElem? e)
open Classical in
theorem f36_ok (t : Val) (want : List (List UInt8)) (hs : ∀ c ∈ t.cols, c.length ≤ 1000000) (hsm : Small t) (hw : want.length ≤ 1000000) :
    FnOK sys 36 [.agg (encV t), strsD want] [] (.tup [.agg (encV (pickT t want).1), .v (.int .i64 (pickT t want).2)]) [] := by
  have h65 := f65_ok t hs
  obtain ⟨kd0, s0, dn0, ds0, num0, cols, rows⟩ := t
  have hcopy := f55_ok _ (pick_small (want := want) hsm hw)
  obtain ⟨_, _, _, _, _, _, _, hl1, hl2, hl3, hl4⟩ := id hsm
  have hrl : encRs rows = rows.map fun r => [rowV r] := by rw [encRs_map, List.map_map]; rfl
  cases hr : isTab (.mk kd0 s0 dn0 ds0 num0 cols rows) with
  | false =>
    have e : pickT (.mk kd0 s0 dn0 ds0 num0 cols rows) want = (zeroV, 14) := by simp [pickT, hr]
    rw [e]
    refine FnOK.leRes ?_ (zeroTup 14)
    rw [hr] at h65
    simp only [encV] at h65 ⊢
    refine FnOK.intro Tryz.f36 (by kernel_rfl) rfl rfl [.cell 4 33, .tmp 5] rfl 0 rfl (Nat.le_of_ble_eq_true rfl) rfl rfl fun E hN h0 => W.code (N := 91) [2, 56, 79, 85] hN ?_
    repeat (first | refine st_end rfl ?_ | ((first | refine st1 fun K k => ?_ | refine st2 fun K k => ?_ | refine st3 rfl fun K k => ?_ | refine st4 fun K k => ?_); simp only [go_sem]; refine k _ _ _ _ _ _ ?_; clear k K))
    (first | refine st1 fun K k => ?_ | refine st3 rfl fun K k => ?_); simp only [go_sem]; refine callP (h65) ?_; refine k _ _ _ _ _ _ ?_; clear k K
    repeat (first | refine st_end rfl ?_ | ((first | refine st1 fun K k => ?_ | refine st2 fun K k => ?_ | refine st3 rfl fun K k => ?_ | refine st4 fun K k => ?_); simp only [go_sem]; refine k _ _ _ _ _ _ ?_; clear k K))
    refine Done.mk (.inr rfl) Into.refl ?_ [] 0 ?_ ?_ ?_ ?_
    · rfl
    · rfl
    · simp only [go_sem, zeroA]
    · trivial
    · rfl
  | true =>
  have hlen := isTab_rows hr
  have hnd := isTab_nodup hr
  have e : pickT (.mk kd0 s0 dn0 ds0 num0 cols rows) want = pickC cols rows want := by simp [pickT, hr]
  rw [e]
  rw [hr] at h65
  obtain ⟨R, hR⟩ : ∃ R, pickC cols rows want = R := ⟨_, rfl⟩
  have hR1 : ¬ okW cols want → R = (zeroV, 13) := fun h => by rw [← hR]; unfold pickC; rw [if_neg h]
  have hR2 : okW cols want → R = (.mk 5 [] 0 0 0 want (rows.map (pickR cols want)), 0) := fun h => by rw [← hR]; unfold pickC; rw [if_pos h]
  rw [hR]
  clear e hR
  refine FnOK.intro Tryz.f36 (by kernel_rfl) rfl rfl [.cell 4 33, .tmp 5] rfl 0 rfl (Nat.le_of_ble_eq_true rfl) (by simp only [go_sem, subL_encV]) rfl fun E hN h0 => W.code (N := 91) [2, 56, 79, 85] hN ?_
  have hrl2 : encRs (rows.map (pickR cols want)) = rows.map fun r => [rowV (pickR cols want r)] := by rw [encRs_map, List.map_map]; simp only [List.map_map]; rfl
  simp only [encV, hrl, hrl2] at h65 hcopy ⊢
  repeat (first | refine st_end rfl ?_ | ((first | refine st1 fun K k => ?_ | refine st2 fun K k => ?_ | refine st3 rfl fun K k => ?_ | refine st4 fun K k => ?_); simp only [go_sem]; refine k _ _ _ _ _ _ ?_; clear k K))
  (first | refine st1 fun K k => ?_ | refine st3 rfl fun K k => ?_); simp only [go_sem]; refine callP (h65) ?_; refine k _ _ _ _ _ _ ?_; clear k K
  repeat (first | refine st_end rfl ?_ | ((first | refine st1 fun K k => ?_ | refine st2 fun K k => ?_ | refine st3 rfl fun K k => ?_ | refine st4 fun K k => ?_); simp only [go_sem]; refine k _ _ _ _ _ _ ?_; clear k K))
  refine W.loopP (fun i : Nat => ⟨[(1, strsD want), (2, .ep [.v (.int .i64 kd0), .s s0, .v (.int .i64 dn0), .v (.int .i64 ds0), .v (.int .i64 num0), strsD cols, rowsV rows]), (4, .ref 0 0), (6, .mp 1), (26, strsD cols), (27, .v (.int .i64 cols.length)), (28, .v (.int .i64 i))],
      [(0, .box [.v (.int .i64 0), .s [], .v (.int .i64 0), .v (.int .i64 0), .v (.int .i64 0), .v (.slice none 0 0), .v (.slice none 0 0)]), (1, .mp (idxM (cols.take i) (ix cols)))], 2, []⟩)
    (fun i => i ≤ cols.length) (fun i => cols.length - i) 0 (Nat.zero_le _) (Into.le ?_ ?_ (Nat.le_refl _) rfl) fun i hi => W.code (N := 91) [2, 56, 79, 85] hN ?_
  · simp only [go_sem, List.length_map]
    exact LeD.refl _
  · simp only [go_sem, List.take_zero, idxM, List.map_nil]
  repeat (first | refine st_end rfl ?_ | ((first | refine st1 fun K k => ?_ | refine st2 fun K k => ?_ | refine st3 rfl fun K k => ?_ | refine st4 fun K k => ?_); simp only [go_sem]; refine k _ _ _ _ _ _ ?_; clear k K))
  refine st_cond fun A B a b => ?_; simp only [go_sem]; refine ⟨fun g => a ?_, fun g => b ?_⟩ <;> clear a b A B
  · obtain ⟨c, hc⟩ := getS (l := cols) (i := i) (by omega)
    have w5 : IntKind.wrap .i64 ((i : Int) + 1) = ((i + 1 : Nat) : Int) := wrapTo (by omega)
    have e5 : cols.take (i + 1) = cols.take i ++ [c] := by rw [List.take_add_one, hc]; rfl
    have hput := idxM_put (f := ix cols) (nodup_at hnd hc)
    rw [ix_at hnd hc] at hput
    have hkP := idxM_kindP (cols.take i) (ix cols)
    repeat (first | refine st_end rfl ?_ | ((first | refine st1 fun K k => ?_ | refine st2 fun K k => ?_ | refine st3 rfl fun K k => ?_ | refine st4 fun K k => ?_); simp only [go_sem, hc, w5]; refine k _ _ _ _ _ _ ?_; clear k K))
    refine st2 fun K k => ?_
    simp only [go_sem, hput]
    refine ⟨hkP, ?_⟩
    refine k _ _ _ _ _ _ ?_; clear k K
    repeat (first | refine st_end rfl ?_ | ((first | refine st1 fun K k => ?_ | refine st2 fun K k => ?_ | refine st3 rfl fun K k => ?_ | refine st4 fun K k => ?_); simp only [go_sem, w5]; refine k _ _ _ _ _ _ ?_; clear k K))
    refine ⟨i + 1, by omega, by omega, Into.le ?_ ?_ (Nat.le_refl _) rfl⟩
    · simp only [go_sem]
    · simp only [go_sem, e5]
  · obtain rfl : i = cols.length := by omega
    refine iq Into.refl ?_
    obtain ⟨es, hes⟩ : ∃ es : Nat → List (List UInt8), ∀ i, es i = cols.filter fun c => decide (c ∉ want.take i) := ⟨_, fun _ => rfl⟩
    have es0 : es 0 = cols := by rw [hes]; simp
    have esN : ∀ i, (es i).Nodup := fun i => by rw [hes]; exact hnd.filter _
    have esM : ∀ i w, w ∈ es i ↔ w ∈ cols ∧ w ∉ want.take i := fun i w => by rw [hes]; simp
    have esD : ∀ i w, want[i]? = some w → (es i).filter (fun c => decide (c ≠ w)) = es (i + 1) := fun i w h => by
      rw [hes, hes, List.filter_filter, List.take_add_one, h]
      refine List.filter_congr fun c _ => ?_
      simp [and_comm]
    simp only [go_sem, List.take_length]
    repeat (first | refine st_end rfl ?_ | ((first | refine st1 fun K k => ?_ | refine st2 fun K k => ?_ | refine st3 rfl fun K k => ?_ | refine st4 fun K k => ?_); simp only [go_sem]; refine k _ _ _ _ _ _ ?_; clear k K))
    refine W.loopP (fun i : Nat => ⟨[(1, strsD want), (2, .ep [.v (.int .i64 kd0), .s s0, .v (.int .i64 dn0), .v (.int .i64 ds0), .v (.int .i64 num0), strsD cols, rowsV rows]), (4, .ref 0 0), (6, .mp 1), (9, .own 2 i), (37, strsD want), (38, .v (.int .i64 want.length)), (39, .v (.int .i64 i))],
        [(0, .box [.v (.int .i64 0), .s [], .v (.int .i64 0), .v (.int .i64 0), .v (.int .i64 0), .v (.slice none 0 0), .v (.slice none 0 0)]), (1, .mp (idxM (es i) (ix cols))), (2, .row 3 1 ((want.take i).map fun w => [.v (.int .i64 (ix cols w))]))], 3, []⟩)
      (fun i => i ≤ want.length ∧ ∀ (j : Nat) (w : List UInt8), j < i → want[j]? = some w → w ∈ cols ∧ w ∉ want.take j) (fun i => want.length - i) 0 ⟨Nat.zero_le _, fun j w h => absurd h (Nat.not_lt_zero _)⟩ ((Into.nilRow 9 3 1 rfl).trans (Into.le ?_ ?_ (Nat.le_refl _) rfl)) fun i hi => W.code (N := 91) [2, 56, 79, 85] hN ?_
    · simp only [go_sem, List.length_map]
      exact LeD.refl _
    · simp only [go_sem, List.take_zero, List.map_nil, es0]
    obtain ⟨hi1, hi2⟩ := hi
    repeat (first | refine st_end rfl ?_ | ((first | refine st1 fun K k => ?_ | refine st2 fun K k => ?_ | refine st3 rfl fun K k => ?_ | refine st4 fun K k => ?_); simp only [go_sem]; refine k _ _ _ _ _ _ ?_; clear k K))
    refine st_cond fun A B a b => ?_; simp only [go_sem]; refine ⟨fun g => a ?_, fun g => b ?_⟩ <;> clear a b A B
    · obtain ⟨w, hwi⟩ := getS (l := want) (i := i) (by omega)
      have w5 : IntKind.wrap .i64 ((i : Int) + 1) = ((i + 1 : Nat) : Int) := wrapTo (by omega)
      have e5 : want.take (i + 1) = want.take i ++ [w] := by rw [List.take_add_one, hwi]; rfl
      have hkP := idxM_kindP (es i) (ix cols)
      have b1 : i + 1 ≤ maxLen := by unfold maxLen; omega
      have b2 : (i + 1) * 8 ≤ 140737488355328 := by omega
      have hlt : (want.take i).length = i := by rw [List.length_take]; omega
      by_cases c1 : w ∈ es i
      · have hf := idxM_some (f := ix cols) c1
        repeat (first | refine st_end rfl ?_ | ((first | refine st1 fun K k => ?_ | refine st2 fun K k => ?_ | refine st3 rfl fun K k => ?_ | refine st4 fun K k => ?_); simp only [go_sem, hwi, hf]; refine k _ _ _ _ _ _ ?_; clear k K))
        (first | refine st1 fun K k => ?_ | refine st3 rfl fun K k => ?_); simp only [go_sem, hf]
        refine ⟨hkP, ?_⟩
        refine k _ _ _ _ _ _ ?_; clear k K
        repeat (first | refine st_end rfl ?_ | ((first | refine st1 fun K k => ?_ | refine st2 fun K k => ?_ | refine st3 rfl fun K k => ?_ | refine st4 fun K k => ?_); simp only [go_sem]; refine k _ _ _ _ _ _ ?_; clear k K))
        refine st2 fun K k => ?_
        simp only [go_sem, idxM_del (esN i), esD i w hwi]
        refine ⟨hkP, ?_⟩
        refine k _ _ _ _ _ _ ?_; clear k K
        repeat (first | refine st_end rfl ?_ | ((first | refine st1 fun K k => ?_ | refine st2 fun K k => ?_ | refine st3 rfl fun K k => ?_ | refine st4 fun K k => ?_); simp only [go_sem, hwi, w5, b1, b2, List.length_map, hlt]; refine k _ _ _ _ _ _ ?_; clear k K))
        obtain ⟨m1, m2⟩ := (esM i w).1 c1
        refine ⟨i + 1, ⟨by omega, fun j w' hj hw' => ?_⟩, by omega, (Into.ren h0 [(0, 0), (1, 1), (2, 3)] 3 rfl).trans (Into.le ?_ ?_ (Nat.le_refl _) rfl)⟩
        · by_cases hji : j = i
          · subst hji
            obtain rfl : w = w' := by rw [hwi] at hw'; cases hw'; rfl
            exact ⟨m1, m2⟩
          · exact hi2 j w' (by omega) hw'
        · simp only [go_sem, newOf]
        · simp only [go_sem, newOf, e5, List.map_append, List.map_cons, List.map_nil, idxM]
      · have hf := idxM_none (f := ix cols) c1
        rw [hR1 fun h => c1 ((esM i w).2 (h i w hwi))]
        repeat (first | refine st_end rfl ?_ | ((first | refine st1 fun K k => ?_ | refine st2 fun K k => ?_ | refine st3 rfl fun K k => ?_ | refine st4 fun K k => ?_); simp only [go_sem, hwi, hf]; refine k _ _ _ _ _ _ ?_; clear k K))
        (first | refine st1 fun K k => ?_ | refine st3 rfl fun K k => ?_); simp only [go_sem, hf]
        refine ⟨hkP, ?_⟩
        refine k _ _ _ _ _ _ ?_; clear k K
        repeat (first | refine st_end rfl ?_ | ((first | refine st1 fun K k => ?_ | refine st2 fun K k => ?_ | refine st3 rfl fun K k => ?_ | refine st4 fun K k => ?_); simp only [go_sem]; refine k _ _ _ _ _ _ ?_; clear k K))
        simp only [go_sem]
        refine iq Into.refl (Done.into (Into.le (st' := ⟨[(4, .ref 0 0), (5, .v (.int .i64 13))], [(0, .box (encV zeroV))], 3, []⟩) ?_ ?_ (Nat.le_refl _) rfl) (Done.mk (.inr rfl) Into.refl ?_ [] 0 ?_ ?_ ?_ ?_))
        · simp only [go_sem]
        · simp only [go_sem]
          exact LeO.box zeroLe
        · rfl
        · rfl
        · simp only [go_sem, encV, zeroV]
        · trivial
        · rfl
    · obtain rfl : i = want.length := by omega
      have ok : okW cols want := fun j w hj => hi2 j w (List.getElem?_eq_some_iff.1 hj).1 hj
      rw [hR2 ok]
      clear hR1 hR2 hi2
      obtain ⟨ids, hids⟩ : ∃ ids, want.map (fun w => [D.v (.int .i64 (ix cols w))]) = ids := ⟨_, rfl⟩
      have idl : ids.length = want.length := by rw [← hids]; simp
      refine iq (Into.frz [2] ?_) ?_
      · simp only [go_sem]
        intro e he
        obtain ⟨q, _, rfl⟩ := List.mem_map.1 he; rfl
      simp only [go_sem, List.take_length, List.length_map, hids, idl, decide_true]
      repeat (first | refine st_end rfl ?_ | ((first | refine st1 fun K k => ?_ | refine st2 fun K k => ?_ | refine st3 rfl fun K k => ?_ | refine st4 fun K k => ?_); simp only [go_sem]; refine k _ _ _ _ _ _ ?_; clear k K))
      refine W.loopP (fun i : Nat => ⟨[(4, .ref 0 0), (9, .sl ids 1), (14, .ref 1 0), (62, rowsV rows), (63, .v (.int .i64 rows.length)), (64, .v (.int .i64 i))],
        [(0, .box [.v (.int .i64 0), .s [], .v (.int .i64 0), .v (.int .i64 0), .v (.int .i64 0), .v (.slice none 0 0), .v (.slice none 0 0)]), (1, .box [.v (.int .i64 5), .s [], .v (.int .i64 0), .v (.int .i64 0), .v (.int .i64 0), strsD want, .own 2 i]), (2, .row 45 1 ((rows.take i).map fun r => [rowV (pickR cols want r)]))], 3, []⟩)
        (fun i => i ≤ rows.length) (fun i => rows.length - i) 0 (Nat.zero_le _) ((Into.ren h0 [(0, 0), (1, 3)] 2 rfl).trans ((Into.nilCell 1 6 45 1 rfl rfl).trans (Into.le ?_ ?_ (Nat.le_refl _) rfl))) fun i hi => W.code (N := 91) [2, 56, 79, 85] hN ?_
      · simp only [go_sem, newOf, List.length_map]
        first | exact LeD.refl _ | exact ⟨LeD.refl _, LeD.refl _⟩
      · simp only [go_sem, newOf, List.take_zero, List.map_nil]
      repeat (first | refine st_end rfl ?_ | ((first | refine st1 fun K k => ?_ | refine st2 fun K k => ?_ | refine st3 rfl fun K k => ?_ | refine st4 fun K k => ?_); simp only [go_sem]; refine k _ _ _ _ _ _ ?_; clear k K))
      refine st_cond fun A B a b => ?_; simp only [go_sem]; refine ⟨fun g => a ?_, fun g => b ?_⟩ <;> clear a b A B
      · obtain ⟨r, hr⟩ := getS (l := rows) (i := i) (by omega)
        have hrl := hlen r (List.mem_of_getElem? hr)
        have w5 : IntKind.wrap .i64 ((i : Int) + 1) = ((i + 1 : Nat) : Int) := wrapTo (by omega)
        have e5 : rows.take (i + 1) = rows.take i ++ [r] := by rw [List.take_add_one, hr]; rfl
        have hlt : (rows.take i).length = i := by rw [List.length_take]; omega
        have b1 : i + 1 ≤ maxLen := by unfold maxLen; omega
        have b2 : (i + 1) * 24 ≤ 140737488355328 := by omega
        repeat (first | refine st_end rfl ?_ | ((first | refine st1 fun K k => ?_ | refine st2 fun K k => ?_ | refine st3 rfl fun K k => ?_ | refine st4 fun K k => ?_); simp only [go_sem, hr, idl]; refine k _ _ _ _ _ _ ?_; clear k K))
        refine W.loopP (fun j : Nat => ⟨[(4, .ref 0 0), (9, .sl ids 1), (14, .ref 1 0), (62, rowsV rows), (63, .v (.int .i64 rows.length)), (64, .v (.int .i64 i)), (16, rowV r), (17, .own 3 j), (68, .sl ids 1), (69, .v (.int .i64 want.length)), (70, .v (.int .i64 j))],
          [(0, .box [.v (.int .i64 0), .s [], .v (.int .i64 0), .v (.int .i64 0), .v (.int .i64 0), .v (.slice none 0 0), .v (.slice none 0 0)]), (1, .box [.v (.int .i64 5), .s [], .v (.int .i64 0), .v (.int .i64 0), .v (.int .i64 0), strsD want, .own 2 i]), (2, .row 45 1 ((rows.take i).map fun r => [rowV (pickR cols want r)])), (3, .row 33 7 ((want.take j).map fun w => encV (r.getD (ix cols w) zeroV)))], 4, []⟩)
          (fun j => j ≤ want.length) (fun j => want.length - j) 0 (Nat.zero_le _) ((Into.nilRow 17 33 7 rfl).trans (Into.le ?_ ?_ (Nat.le_refl _) rfl)) fun j hj => W.code (N := 91) [2, 56, 79, 85] hN ?_
        · simp only [go_sem]
          exact LeD.refl _
        · simp only [go_sem, List.take_zero, List.map_nil]
        repeat (first | refine st_end rfl ?_ | ((first | refine st1 fun K k => ?_ | refine st2 fun K k => ?_ | refine st3 rfl fun K k => ?_ | refine st4 fun K k => ?_); simp only [go_sem]; refine k _ _ _ _ _ _ ?_; clear k K))
        refine st_cond fun A B a b => ?_; simp only [go_sem]; refine ⟨fun g => a ?_, fun g => b ?_⟩ <;> clear a b A B
        · obtain ⟨w, hwj⟩ := getS (l := want) (i := j) (by omega)
          have c1 := (ok j w hwj).1
          obtain ⟨i1, i2⟩ := ix_eq c1
          obtain ⟨x, hx⟩ := getS (l := r) (i := ix cols w) (by omega)
          have x5 : IntKind.wrap .i64 ((j : Int) + 1) = ((j + 1 : Nat) : Int) := wrapTo (by omega)
          have y5 : want.take (j + 1) = want.take j ++ [w] := by rw [List.take_add_one, hwj]; rfl
          have ylt : (want.take j).length = j := by rw [List.length_take]; omega
          have d1 : j + 1 ≤ maxLen := by unfold maxLen; omega
          have d2 : (j + 1) * 96 ≤ 140737488355328 := by omega
          have xg : r.getD (ix cols w) zeroV = x := getD_some hx
          have fx : free.freeL (encV x) = true := freeL_enc x
          have ax := allOne_enc x
          have idj : ids[j]? = some [D.v (.int .i64 (ix cols w))] := by rw [← hids]; simp [hwj]
          repeat (first | refine st_end rfl ?_ | ((first | refine st1 fun K k => ?_ | refine st2 fun K k => ?_ | refine st3 rfl fun K k => ?_ | refine st4 fun K k => ?_); simp only [go_sem, idj, hx, encV_len, encV_take, Nat.le_refl, x5, d1, d2, List.length_map, ylt, fx, ax]; refine k _ _ _ _ _ _ ?_; clear k K))
          refine ⟨j + 1, by omega, by omega, (Into.ren h0 [(0, 0), (1, 1), (2, 2), (3, 4)] 4 rfl).trans (Into.le ?_ ?_ (Nat.le_refl _) rfl)⟩
          · simp only [go_sem, newOf, subL_encV]
          · simp only [go_sem, newOf, y5, List.map_append, List.map_cons, List.map_nil, xg, subL_encV]
        · obtain rfl : j = want.length := by omega
          refine iq (Into.frz [3] ?_) ?_
          · simp only [go_sem]
            intro e he
            obtain ⟨q, _, rfl⟩ := List.mem_map.1 he
            exact freeL_enc _
          have ep : (pickR cols want r).map encV = want.map fun w => encV (r.getD (ix cols w) zeroV) := by
            unfold pickR
            rw [List.map_map]; rfl
          simp only [go_sem, List.take_length, List.length_map]
          repeat (first | refine st_end rfl ?_ | ((first | refine st1 fun K k => ?_ | refine st2 fun K k => ?_ | refine st3 rfl fun K k => ?_ | refine st4 fun K k => ?_); simp only [go_sem, w5, b1, b2, List.length_map, hlt]; refine k _ _ _ _ _ _ ?_; clear k K))
          refine ⟨i + 1, by omega, by omega, (Into.ren h0 [(0, 0), (1, 1), (2, 4)] 3 rfl).trans (Into.le ?_ ?_ (Nat.le_refl _) rfl)⟩
          · simp only [go_sem, newOf]
          · simp only [go_sem, newOf, e5, List.map_append, List.map_cons, List.map_nil, ep]
      · obtain rfl : i = rows.length := by omega
        refine iq (Into.frz [2] ?_) ?_
        · simp only [go_sem]
          intro e he
          obtain ⟨q, _, rfl⟩ := List.mem_map.1 he; rfl
        simp only [go_sem, List.take_length, List.length_map]
        repeat (first | refine st_end rfl ?_ | ((first | refine st1 fun K k => ?_ | refine st2 fun K k => ?_ | refine st3 rfl fun K k => ?_ | refine st4 fun K k => ?_); simp only [go_sem]; refine k _ _ _ _ _ _ ?_; clear k K))
        (first | refine st1 fun K k => ?_ | refine st3 rfl fun K k => ?_); simp only [go_sem]; refine callP (hcopy) ?_; refine k _ _ _ _ _ _ ?_; clear k K
        repeat (first | refine st_end rfl ?_ | ((first | refine st1 fun K k => ?_ | refine st2 fun K k => ?_ | refine st3 rfl fun K k => ?_ | refine st4 fun K k => ?_); simp only [go_sem]; refine k _ _ _ _ _ _ ?_; clear k K))
        refine Done.mk (.inr rfl) Into.refl ?_ [] 0 ?_ ?_ ?_ ?_
        · rfl
        · rfl
        · simp only [go_sem, encV, hrl2]
        · trivial
        · rfl
end Go.Proofs.YtjgooecohepkoaaGreatDoor
