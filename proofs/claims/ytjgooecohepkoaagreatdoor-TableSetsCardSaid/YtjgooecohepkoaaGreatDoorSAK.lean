/- Contracts of the functions that the statement reaches. -/
import Derived.Test.YtjgooecohepkoaaGreatDoorSAJ
import Derived.Test.YtjgooecohepkoaaGreatDoorSAH
set_option linter.unusedVariables false
set_option linter.unusedSimpArgs false
namespace Go.Proofs.YtjgooecohepkoaaGreatDoor
open Go Go.Abs
set_option linter.unusedSimpArgs false
set_option maxHeartbeats 2000000
/-! ### Tables with a change -/
@[go_sem] theorem lt03 : ((0 : Int) < ((3 : Nat) : Int)) = True := by simp
@[go_sem] theorem lt13 : ((1 : Int) < ((3 : Nat) : Int)) = True := by simp
@[go_sem] theorem lt23 : ((2 : Int) < ((3 : Nat) : Int)) = True := by simp
def modN (n : Nat) (x : Int) : Nat := ((x.tmod n + n).tmod n).toNat
theorem modN_eq (n : Nat) (hn : 0 < n) (hb : n ≤ 1000000) (x : Int) : IntKind.wrap .i64 (x.tmod n + n) = x.tmod n + n ∧ (x.tmod n + n).tmod n = (modN n x : Int) ∧ modN n x < n := by
  have b1 : -(n : Int) < x.tmod n ∧ x.tmod n < n := ⟨Int.lt_tmod_of_pos x (by omega), Int.tmod_lt_of_pos x (by omega)⟩
  have b2 := Int.tmod_nonneg (n : Int) (show 0 ≤ x.tmod n + n by omega)
  have b3 := Int.tmod_lt_of_pos (x.tmod n + n) (show (0 : Int) < n by omega)
  refine ⟨wrapTo (by omega), ?_, ?_⟩
  · unfold modN; omega
  · unfold modN; omega
def names4o : List (List UInt8) := [[], [111, 116, 104, 101, 114], [49, 120], [116, 119, 111, 32, 119, 111, 114, 100, 115]]
theorem names4o_at {j : Nat} (h : j < 4) : ([[.s []], [.s [111, 116, 104, 101, 114]], [.s [49, 120]], [.s [116, 119, 111, 32, 119, 111, 114, 100, 115]]] : List (List D))[j]? = some [.s (names4o.getD j [])] := by
  rcases j with _ | _ | _ | _ | j <;> first | rfl | omega
def city : List UInt8 := [99, 105, 116, 121]
def oddName (name : List UInt8) (q0 q1 : Int) : List UInt8 := if modN 8 q0 = 0 then names4o.getD (modN 4 q1) [] else name
def oddCols (cols : List (List UInt8)) (q0 : Int) : List (List UInt8) := if modN 8 q0 = 1 then cols ++ [city] else if modN 8 q0 = 4 then [] else cols
def oddRows (cols : List (List UInt8)) (rows : List (List Val)) (q0 q1 q2 : Int) : List (List Val) :=
  if modN 8 q0 = 2 then rows ++ [List.replicate cols.length zeroV]
  else if modN 8 q0 = 3 then (match rows[modN rows.length q1]? with | some r => rows.take (modN rows.length q1) ++ r.set (modN cols.length q2) (madeOf [q1, q2]) :: rows.drop (modN rows.length q1 + 1) | none => rows)
  else if modN 8 q0 = 4 then []
  else if modN 8 q0 = 5 then rows.drop 1
  else if modN 8 q0 = 6 then rows ++ List.replicate (95 + modN 8 q1) (List.replicate cols.length zeroV)
  else if modN 8 q0 = 7 then (match rows with | r :: rest => r.drop 1 :: rest | [] => [])
  else rows
def zeroD : List D := [.v (.int .i64 0), .s [], .v (.int .i64 0), .v (.int .i64 0), .v (.int .i64 0), .v (.slice none 0 0), .v (.slice none 0 0)]
theorem zeroFree : ∀ n : Nat, allFree (List.replicate n zeroD)
  | 0 => trivial
  | n + 1 => by rw [List.replicate_succ]; exact ⟨rfl, zeroFree n⟩
theorem LeD.appR {es xs ys : List (List D)} {sz : Nat} (h : xs.length = ys.length) (hp : ∀ (i : Nat) x y, xs[i]? = some x → ys[i]? = some y → LeL x y) (hl : ∀ e ∈ es, e.length = sz) (hy : ∀ e ∈ ys, e.length = sz) : LeD (.sl (es ++ xs) sz) (.sl (es ++ ys) sz) := by
  refine LeD.sl (by simp [h]) ?_ ?_
  · intro e he
    rcases List.mem_append.1 he with h1 | h1
    · exact hl e h1
    · exact hy e h1
  · intro i e e' h1 h2
    rcases Nat.lt_or_ge i es.length with hi | hi
    · rw [List.getElem?_append_left hi] at h1 h2
      rw [h1] at h2; cases h2
      exact fun _ _ _ h => h
    · rw [List.getElem?_append_right hi] at h1 h2
      exact hp _ _ _ h1 h2
theorem zeroRow (n : Nat) : LeD (.sl (List.replicate n [.v (.int .i64 0), .s [], .v (.int .i64 0), .v (.int .i64 0), .v (.int .i64 0), .v (.slice none 0 0), .v (.slice none 0 0)]) 7) (rowV (List.replicate n zeroV)) := by
  unfold rowV
  refine LeD.sl (by simp) ?_ ?_
  · intro e he
    obtain ⟨v, _, rfl⟩ := List.mem_map.1 he
    exact encV_len v
  · intro i e e' h1 h2
    rw [List.map_replicate] at h2
    have h1' := List.mem_of_getElem? h1
    have h2' := List.mem_of_getElem? h2
    rw [List.eq_of_mem_replicate h1', List.eq_of_mem_replicate h2']
    exact zeroLe
section
variable (name : List UInt8) (cols : List (List UInt8)) (rows : List (List Val)) (q0 q1 q2 : Int)
theorem Done.into {Y : Sy} {E : Env Y} {k : Nat} {rs : List ResultVar} {d : D} {post : Store} {e : Exit} {st st' : St} (hi : Into E st st') (h : Done E k rs d post e st') : Done E k rs d post e st := by
  obtain ⟨he, st2, h2, h3⟩ := h
  exact ⟨he, st2, hi.trans h2, h3⟩
/-- The end: what is one's own comes to rest. -/
theorem odd_end {E : Env sys} {L : List Nat} {σ : List (Nat × D)} {S : Store} {nx : Nat} {e : Exit} (he : e = .normal ∨ e = .ret) {n : List UInt8} {c : List (List UInt8)} {r : List (List Val)} {cs : List D} (hc : closedS (pickS S L)) (h4 : getT (mapT (frzD (pickS S L)) σ) 4 = .ref 1 0)
    (hb : Abs.look (mapS (frzO (pickS S L)) (delAll S L)) 1 = some (.box cs)) (hl : LeL cs [.s n, strsD c, rowsV r]) : Done E 0 [.cell 4 28] (.agg [.s n, strsD c, rowsV r]) [] e ⟨σ, S, nx, []⟩ := by
  refine Done.mk he ((Into.frz L hc).trans (Into.le (st' := ⟨[(4, .ref 1 0)], [(1, .box [.s n, strsD c, rowsV r])], nx, []⟩) ⟨by rw [h4]; exact LeD.refl _, trivial⟩ ⟨by rw [hb]; exact LeO.box hl, trivial⟩ (Nat.le_refl _) rfl)) ?_ [] 0 ?_ ?_ ?_ ?_
  · rfl
  · rfl
  · simp only [go_sem]
  · trivial
  · rfl
theorem f14_0 (hv : Small (.mk 5 [] 0 0 0 cols rows)) (h01 : modN 8 q0 = 0) :
    FnOK sys 14 [.agg [.s name, strsD cols, rowsV rows], .agg [.v (.int .i64 q0), .v (.int .i64 q1), .v (.int .i64 q2)]] [] (.agg [.s (oddName name q0 q1), strsD (oddCols cols q0), rowsV (oddRows cols rows q0 q1 q2)]) [] := by
  obtain ⟨_, _, _, _, _, _, _, hl1, hl2, hl3, hl4⟩ := id hv
  refine FnOK.intro Tryz.f14 (by kernel_rfl) rfl rfl [.cell 4 28] rfl 0 rfl (Nat.le_of_ble_eq_true rfl) rfl rfl fun E hN h0 => W.code (N := 139) [3, 16, 29, 39, 40, 86, 120, 121] hN ?_
  have u1 : IntKind.wrap .i64 (q0.tmod 8 + 8) = q0.tmod 8 + 8 := (modN_eq 8 (by omega) (by omega) q0).1
  have u2 : (q0.tmod 8 + 8).tmod 8 = 0 := by have := (modN_eq 8 (by omega) (by omega) q0).2.1; rw [h01] at this; exact this
  have z0 : ((q0.tmod 8 + 8).tmod 8 == 0) = true := by rw [u2]; rfl
  have hcl : ∀ e ∈ List.map (fun s => [D.s s]) cols, freeL e = true := by intro e he; obtain ⟨q, _, rfl⟩ := List.mem_map.1 he; rfl
  have hrl : ∀ e ∈ List.map (fun r => [rowV r]) rows, freeL e = true := by intro e he; obtain ⟨q, _, rfl⟩ := List.mem_map.1 he; rfl
  have v1 : IntKind.wrap .i64 (q1.tmod 4 + 4) = q1.tmod 4 + 4 := (modN_eq 4 (by omega) (by omega) q1).1
  have v2 : (q1.tmod 4 + 4).tmod 4 = (modN 4 q1 : Int) := (modN_eq 4 (by omega) (by omega) q1).2.1
  have v3 := (modN_eq 4 (by omega) (by omega) q1).2.2
  have hm := names4o_at v3
  repeat (first | refine st_end rfl ?_ | ((first | refine st1 fun K k => ?_ | refine st2 fun K k => ?_ | refine st3 rfl fun K k => ?_ | refine st4 fun K k => ?_); simp only [go_sem]; refine k _ _ _ _ _ _ ?_; clear k K))
  (first | refine st1 fun K k => ?_ | refine st3 rfl fun K k => ?_); simp only [go_sem]
  refine callT (f50_none name cols rows hv) 4 (by simp only [go_sem]) (by omega) (by simp only [go_sem]) ?_
  simp only [go_sem]
  refine k _ _ _ _ _ _ ?_; clear k K
  repeat (first | refine st_end rfl ?_ | ((first | refine st1 fun K k => ?_ | refine st2 fun K k => ?_ | refine st3 rfl fun K k => ?_ | refine st4 fun K k => ?_); simp only [go_sem, u1, z0, v1, v2, hm]; refine k _ _ _ _ _ _ ?_; clear k K))
  have en : oddName name q0 q1 = names4o.getD (modN 4 q1) [] := if_pos h01
  have ec : oddCols cols q0 = cols := by simp [oddCols, h01]
  have er : oddRows cols rows q0 q1 q2 = rows := by simp [oddRows, h01]
  rw [en, ec, er]
  refine odd_end (.inr rfl) (L := [2, 3]) (cs := [.s (names4o.getD (modN 4 q1) []), strsD cols, rowsV rows]) ?_ ?_ ?_ (fun _ _ _ h => h)
  · simp only [go_sem]
    exact ⟨hcl, hrl⟩
  · simp only [go_sem]
  · simp only [go_sem, List.length_map]
theorem f14_1 (hv : Small (.mk 5 [] 0 0 0 cols rows)) (h01 : modN 8 q0 = 1) :
    FnOK sys 14 [.agg [.s name, strsD cols, rowsV rows], .agg [.v (.int .i64 q0), .v (.int .i64 q1), .v (.int .i64 q2)]] [] (.agg [.s (oddName name q0 q1), strsD (oddCols cols q0), rowsV (oddRows cols rows q0 q1 q2)]) [] := by
  obtain ⟨_, _, _, _, _, _, _, hl1, hl2, hl3, hl4⟩ := id hv
  refine FnOK.intro Tryz.f14 (by kernel_rfl) rfl rfl [.cell 4 28] rfl 0 rfl (Nat.le_of_ble_eq_true rfl) rfl rfl fun E hN h0 => W.code (N := 139) [3, 16, 29, 39, 40, 86, 120, 121] hN ?_
  have u1 : IntKind.wrap .i64 (q0.tmod 8 + 8) = q0.tmod 8 + 8 := (modN_eq 8 (by omega) (by omega) q0).1
  have u2 : (q0.tmod 8 + 8).tmod 8 = 1 := by have := (modN_eq 8 (by omega) (by omega) q0).2.1; rw [h01] at this; exact this
  have z0 : ((q0.tmod 8 + 8).tmod 8 == 0) = false := by rw [u2]; rfl
  have z1 : ((q0.tmod 8 + 8).tmod 8 == 1) = true := by rw [u2]; rfl
  have hcl : ∀ e ∈ List.map (fun s => [D.s s]) cols, freeL e = true := by intro e he; obtain ⟨q, _, rfl⟩ := List.mem_map.1 he; rfl
  have hrl : ∀ e ∈ List.map (fun r => [rowV r]) rows, freeL e = true := by intro e he; obtain ⟨q, _, rfl⟩ := List.mem_map.1 he; rfl
  have b1 : cols.length + 1 ≤ maxLen := by unfold maxLen; omega
  have b2 : (cols.length + 1) * 16 ≤ 140737488355328 := by omega
  have b3 : rows.length + 1 ≤ maxLen := by unfold maxLen; omega
  have b4 : (rows.length + 1) * 24 ≤ 140737488355328 := by omega
  have b5 : 96 * cols.length ≤ 281474976710656 := by omega
  have b6 : cols.length ≤ maxLen := by unfold maxLen; omega
  repeat (first | refine st_end rfl ?_ | ((first | refine st1 fun K k => ?_ | refine st2 fun K k => ?_ | refine st3 rfl fun K k => ?_ | refine st4 fun K k => ?_); simp only [go_sem]; refine k _ _ _ _ _ _ ?_; clear k K))
  (first | refine st1 fun K k => ?_ | refine st3 rfl fun K k => ?_); simp only [go_sem]
  refine callT (f50_none name cols rows hv) 4 (by simp only [go_sem]) (by omega) (by simp only [go_sem]) ?_
  simp only [go_sem]
  refine k _ _ _ _ _ _ ?_; clear k K
  repeat (first | refine st_end rfl ?_ | ((first | refine st1 fun K k => ?_ | refine st2 fun K k => ?_ | refine st3 rfl fun K k => ?_ | refine st4 fun K k => ?_); simp only [go_sem, u1, z0, z1, b1, b2, List.length_map]; refine k _ _ _ _ _ _ ?_; clear k K))
  have en : oddName name q0 q1 = name := by simp [oddName, h01]
  have ec : oddCols cols q0 = cols ++ [city] := by simp [oddCols, h01]
  have er : oddRows cols rows q0 q1 q2 = rows := by simp [oddRows, h01]
  rw [en, ec, er]
  refine odd_end (.inr rfl) (L := [3, 4]) (cs := [.s name, strsD (cols ++ [city]), rowsV rows]) ?_ ?_ ?_ (fun _ _ _ h => h)
  · simp only [go_sem, city]
    refine ⟨hrl, fun e he => ?_⟩
    rcases List.mem_append.1 he with he | he
    · exact hcl e he
    · simp at he; subst he; rfl
  · simp only [go_sem]
  · simp only [go_sem, List.length_map, List.length_append, List.length_replicate, city]
theorem f14_2 (hv : Small (.mk 5 [] 0 0 0 cols rows)) (h01 : modN 8 q0 = 2) :
    FnOK sys 14 [.agg [.s name, strsD cols, rowsV rows], .agg [.v (.int .i64 q0), .v (.int .i64 q1), .v (.int .i64 q2)]] [] (.agg [.s (oddName name q0 q1), strsD (oddCols cols q0), rowsV (oddRows cols rows q0 q1 q2)]) [] := by
  obtain ⟨_, _, _, _, _, _, _, hl1, hl2, hl3, hl4⟩ := id hv
  refine FnOK.intro Tryz.f14 (by kernel_rfl) rfl rfl [.cell 4 28] rfl 0 rfl (Nat.le_of_ble_eq_true rfl) rfl rfl fun E hN h0 => W.code (N := 139) [3, 16, 29, 39, 40, 86, 120, 121] hN ?_
  have u1 : IntKind.wrap .i64 (q0.tmod 8 + 8) = q0.tmod 8 + 8 := (modN_eq 8 (by omega) (by omega) q0).1
  have u2 : (q0.tmod 8 + 8).tmod 8 = 2 := by have := (modN_eq 8 (by omega) (by omega) q0).2.1; rw [h01] at this; exact this
  have z0 : ((q0.tmod 8 + 8).tmod 8 == 0) = false := by rw [u2]; rfl
  have z1 : ((q0.tmod 8 + 8).tmod 8 == 1) = false := by rw [u2]; rfl
  have z2 : ((q0.tmod 8 + 8).tmod 8 == 2) = true := by rw [u2]; rfl
  have hcl : ∀ e ∈ List.map (fun s => [D.s s]) cols, freeL e = true := by intro e he; obtain ⟨q, _, rfl⟩ := List.mem_map.1 he; rfl
  have hrl : ∀ e ∈ List.map (fun r => [rowV r]) rows, freeL e = true := by intro e he; obtain ⟨q, _, rfl⟩ := List.mem_map.1 he; rfl
  have b1 : cols.length + 1 ≤ maxLen := by unfold maxLen; omega
  have b2 : (cols.length + 1) * 16 ≤ 140737488355328 := by omega
  have b3 : rows.length + 1 ≤ maxLen := by unfold maxLen; omega
  have b4 : (rows.length + 1) * 24 ≤ 140737488355328 := by omega
  have b5 : 96 * cols.length ≤ 281474976710656 := by omega
  have b6 : cols.length ≤ maxLen := by unfold maxLen; omega
  have hfree := zeroFree cols.length
  unfold zeroD at hfree
  repeat (first | refine st_end rfl ?_ | ((first | refine st1 fun K k => ?_ | refine st2 fun K k => ?_ | refine st3 rfl fun K k => ?_ | refine st4 fun K k => ?_); simp only [go_sem]; refine k _ _ _ _ _ _ ?_; clear k K))
  (first | refine st1 fun K k => ?_ | refine st3 rfl fun K k => ?_); simp only [go_sem]
  refine callT (f50_none name cols rows hv) 4 (by simp only [go_sem]) (by omega) (by simp only [go_sem]) ?_
  simp only [go_sem]
  refine k _ _ _ _ _ _ ?_; clear k K
  repeat (first | refine st_end rfl ?_ | ((first | refine st1 fun K k => ?_ | refine st2 fun K k => ?_ | refine st3 rfl fun K k => ?_ | refine st4 fun K k => ?_); simp only [go_sem, u1, z0, z1, z2, b3, b4, b5, b6, List.length_map, hfree]; refine k _ _ _ _ _ _ ?_; clear k K))
  have en : oddName name q0 q1 = name := by simp [oddName, h01]
  have ec : oddCols cols q0 = cols := by simp [oddCols, h01]
  have er : oddRows cols rows q0 q1 q2 = rows ++ [List.replicate cols.length zeroV] := by simp [oddRows, h01]
  rw [en, ec, er]
  refine odd_end (.inr rfl) (L := [2, 4]) (cs := [.s name, strsD cols, .sl (rows.map (fun r => [rowV r]) ++ [[.sl (List.replicate cols.length zeroD) 7]]) 1]) ?_ ?_ ?_ (LeL.cons (LeD.refl _) (LeL.cons (LeD.refl _) (LeL.cons ?_ LeL.nil)))
  · simp only [go_sem, zeroD]
    refine ⟨hcl, fun e he => ?_⟩
    rcases List.mem_append.1 he with he | he
    · exact hrl e he
    · simp at he; subst he; rfl
  · simp only [go_sem]
  · simp only [go_sem, List.length_map, List.length_append, List.length_replicate, zeroD]
  · have e2 : rowsV (rows ++ [List.replicate cols.length zeroV]) = .sl (rows.map (fun r => [rowV r]) ++ [[rowV (List.replicate cols.length zeroV)]]) 1 := by simp [rowsV, rowV]
    rw [e2]
    refine LeD.appR rfl (fun i x y hx hy => ?_) (fun e he => by obtain ⟨q, _, rfl⟩ := List.mem_map.1 he; rfl) (fun e he => by simp at he; subst he; rfl)
    obtain rfl : i = 0 := by have := (List.getElem?_eq_some_iff.1 hx).1; simp at this; omega
    simp at hx hy
    subst hx; subst hy
    exact LeL.cons (zeroRow _) LeL.nil
theorem f14_4 (hv : Small (.mk 5 [] 0 0 0 cols rows)) (h01 : modN 8 q0 = 4) :
    FnOK sys 14 [.agg [.s name, strsD cols, rowsV rows], .agg [.v (.int .i64 q0), .v (.int .i64 q1), .v (.int .i64 q2)]] [] (.agg [.s (oddName name q0 q1), strsD (oddCols cols q0), rowsV (oddRows cols rows q0 q1 q2)]) [] := by
  obtain ⟨_, _, _, _, _, _, _, hl1, hl2, hl3, hl4⟩ := id hv
  refine FnOK.intro Tryz.f14 (by kernel_rfl) rfl rfl [.cell 4 28] rfl 0 rfl (Nat.le_of_ble_eq_true rfl) rfl rfl fun E hN h0 => W.code (N := 139) [3, 16, 29, 39, 40, 86, 120, 121] hN ?_
  have u1 : IntKind.wrap .i64 (q0.tmod 8 + 8) = q0.tmod 8 + 8 := (modN_eq 8 (by omega) (by omega) q0).1
  have u2 : (q0.tmod 8 + 8).tmod 8 = 4 := by have := (modN_eq 8 (by omega) (by omega) q0).2.1; rw [h01] at this; exact this
  have z0 : ((q0.tmod 8 + 8).tmod 8 == 0) = false := by rw [u2]; rfl
  have z1 : ((q0.tmod 8 + 8).tmod 8 == 1) = false := by rw [u2]; rfl
  have z2 : ((q0.tmod 8 + 8).tmod 8 == 2) = false := by rw [u2]; rfl
  have z3 : ((q0.tmod 8 + 8).tmod 8 == 3) = false := by rw [u2]; rfl
  have z4 : ((q0.tmod 8 + 8).tmod 8 == 4) = true := by rw [u2]; rfl
  repeat (first | refine st_end rfl ?_ | ((first | refine st1 fun K k => ?_ | refine st2 fun K k => ?_ | refine st3 rfl fun K k => ?_ | refine st4 fun K k => ?_); simp only [go_sem]; refine k _ _ _ _ _ _ ?_; clear k K))
  (first | refine st1 fun K k => ?_ | refine st3 rfl fun K k => ?_); simp only [go_sem]
  refine callT (f50_none name cols rows hv) 4 (by simp only [go_sem]) (by omega) (by simp only [go_sem]) ?_
  simp only [go_sem]
  refine k _ _ _ _ _ _ ?_; clear k K
  repeat (first | refine st_end rfl ?_ | ((first | refine st1 fun K k => ?_ | refine st2 fun K k => ?_ | refine st3 rfl fun K k => ?_ | refine st4 fun K k => ?_); simp only [go_sem, u1, z0, z1, z2, z3, z4]; refine k _ _ _ _ _ _ ?_; clear k K))
  have en : oddName name q0 q1 = name := by simp [oddName, h01]
  have ec : oddCols cols q0 = [] := by simp [oddCols, h01]
  have er : oddRows cols rows q0 q1 q2 = [] := by simp [oddRows, h01]
  rw [en, ec, er]
  refine odd_end (.inr rfl) (L := []) (cs := [.s name, .v (.slice none 0 0), .v (.slice none 0 0)]) ?_ ?_ ?_ (LeL.cons (LeD.refl _) (LeL.cons (LeD.nil 1) (LeL.cons (LeD.nil 1) LeL.nil)))
  · simp only [go_sem]
  · simp only [go_sem]
  · simp only [go_sem, List.length_map, List.length_append, List.length_replicate]
theorem f14_5 (hv : Small (.mk 5 [] 0 0 0 cols rows)) (h01 : modN 8 q0 = 5) :
    FnOK sys 14 [.agg [.s name, strsD cols, rowsV rows], .agg [.v (.int .i64 q0), .v (.int .i64 q1), .v (.int .i64 q2)]] [] (.agg [.s (oddName name q0 q1), strsD (oddCols cols q0), rowsV (oddRows cols rows q0 q1 q2)]) [] := by
  obtain ⟨_, _, _, _, _, _, _, hl1, hl2, hl3, hl4⟩ := id hv
  refine FnOK.intro Tryz.f14 (by kernel_rfl) rfl rfl [.cell 4 28] rfl 0 rfl (Nat.le_of_ble_eq_true rfl) rfl rfl fun E hN h0 => ?_
  have u1 : IntKind.wrap .i64 (q0.tmod 8 + 8) = q0.tmod 8 + 8 := (modN_eq 8 (by omega) (by omega) q0).1
  have u2 : (q0.tmod 8 + 8).tmod 8 = 5 := by have := (modN_eq 8 (by omega) (by omega) q0).2.1; rw [h01] at this; exact this
  have z0 : ((q0.tmod 8 + 8).tmod 8 == 0) = false := by rw [u2]; rfl
  have z1 : ((q0.tmod 8 + 8).tmod 8 == 1) = false := by rw [u2]; rfl
  have z2 : ((q0.tmod 8 + 8).tmod 8 == 2) = false := by rw [u2]; rfl
  have z3 : ((q0.tmod 8 + 8).tmod 8 == 3) = false := by rw [u2]; rfl
  have z4 : ((q0.tmod 8 + 8).tmod 8 == 4) = false := by rw [u2]; rfl
  have z5 : ((q0.tmod 8 + 8).tmod 8 == 5) = true := by rw [u2]; rfl
  have hcl : ∀ e ∈ List.map (fun s => [D.s s]) cols, freeL e = true := by intro e he; obtain ⟨q, _, rfl⟩ := List.mem_map.1 he; rfl
  have hrl : ∀ e ∈ List.map (fun r => [rowV r]) rows, freeL e = true := by intro e he; obtain ⟨q, _, rfl⟩ := List.mem_map.1 he; rfl
  refine W.seqK fun K hK => W.code (N := 139) [3, 16, 29, 39, 40, 86, 120, 121] hN ?_
  repeat (first | refine st_end rfl ?_ | ((first | refine st1 fun K k => ?_ | refine st2 fun K k => ?_ | refine st3 rfl fun K k => ?_ | refine st4 fun K k => ?_); simp only [go_sem]; refine k _ _ _ _ _ _ ?_; clear k K))
  refine hK _ ?_; clear hK K
  refine W.seqK fun K hK => W.code (N := 139) [3, 16, 29, 39, 40, 86, 120, 121] hN ?_
  repeat (first | refine st_end rfl ?_ | ((first | refine st1 fun K k => ?_ | refine st2 fun K k => ?_ | refine st3 rfl fun K k => ?_ | refine st4 fun K k => ?_); simp only [go_sem]; refine k _ _ _ _ _ _ ?_; clear k K))
  (first | refine st1 fun K k => ?_ | refine st3 rfl fun K k => ?_); simp only [go_sem]
  refine callT (f50_none name cols rows hv) 4 (by simp only [go_sem]) (by omega) (by simp only [go_sem]) ?_
  simp only [go_sem]
  refine k _ _ _ _ _ _ ?_; clear k K
  repeat (first | refine st_end rfl ?_ | ((first | refine st1 fun K k => ?_ | refine st2 fun K k => ?_ | refine st3 rfl fun K k => ?_ | refine st4 fun K k => ?_); simp only [go_sem]; refine k _ _ _ _ _ _ ?_; clear k K))
  refine hK _ (W.into (Into.frz [2, 3] ?_) ?_); clear hK K
  · simp only [go_sem]
    exact ⟨hcl, hrl⟩
  refine W.code (N := 139) [3, 16, 29, 39, 40, 86, 120, 121] hN ?_
  simp only [go_sem, List.length_map]
  by_cases hr : (0 : Int) < rows.length
  · have s1 : (1 : Int) ≤ rows.length := by omega
    repeat (first | refine st_end rfl ?_ | ((first | refine st1 fun K k => ?_ | refine st2 fun K k => ?_ | refine st3 rfl fun K k => ?_ | refine st4 fun K k => ?_); simp only [go_sem, u1, z0, z1, z2, z3, z4, z5, hr, s1, decide_true, Int.le_refl, Int.reduceLE, List.length_map, List.take_length]; refine k _ _ _ _ _ _ ?_; clear k K))
    have en : oddName name q0 q1 = name := by simp [oddName, h01]
    have ec : oddCols cols q0 = cols := by simp [oddCols, h01]
    have er : oddRows cols rows q0 q1 q2 = rows.drop 1 := by simp [oddRows, h01]
    rw [en, ec, er]
    refine odd_end (.inr rfl) (L := []) (cs := [.s name, strsD cols, rowsV (rows.drop 1)]) ?_ ?_ ?_ (fun _ _ _ h => h)
    · simp only [go_sem]
    · simp only [go_sem]
    · simp only [go_sem, List.length_map, List.length_append, List.length_replicate]
      rw [List.map_drop]
  · have hr0 : rows = [] := List.eq_nil_of_length_eq_zero (by omega)
    repeat (first | refine st_end rfl ?_ | ((first | refine st1 fun K k => ?_ | refine st2 fun K k => ?_ | refine st3 rfl fun K k => ?_ | refine st4 fun K k => ?_); simp only [go_sem, u1, z0, z1, z2, z3, z4, z5, hr, decide_false]; refine k _ _ _ _ _ _ ?_; clear k K))
    have en : oddName name q0 q1 = name := by simp [oddName, h01]
    have ec : oddCols cols q0 = cols := by simp [oddCols, h01]
    have er : oddRows cols rows q0 q1 q2 = rows := by simp [oddRows, h01, hr0]
    rw [en, ec, er]
    refine odd_end (.inr rfl) (L := []) (cs := [.s name, strsD cols, rowsV rows]) ?_ ?_ ?_ (fun _ _ _ h => h)
    · simp only [go_sem]
    · simp only [go_sem]
    · simp only [go_sem, List.length_map, List.length_append, List.length_replicate]
theorem f14_7 (hv : Small (.mk 5 [] 0 0 0 cols rows)) (h01 : modN 8 q0 = 7) (hc1 : 1 ≤ cols.length) (hsq : ∀ r ∈ rows, r.length = cols.length) :
    FnOK sys 14 [.agg [.s name, strsD cols, rowsV rows], .agg [.v (.int .i64 q0), .v (.int .i64 q1), .v (.int .i64 q2)]] [] (.agg [.s (oddName name q0 q1), strsD (oddCols cols q0), rowsV (oddRows cols rows q0 q1 q2)]) [] := by
  obtain ⟨_, _, _, _, _, _, _, hl1, hl2, hl3, hl4⟩ := id hv
  refine FnOK.intro Tryz.f14 (by kernel_rfl) rfl rfl [.cell 4 28] rfl 0 rfl (Nat.le_of_ble_eq_true rfl) rfl rfl fun E hN h0 => W.code (N := 139) [3, 16, 29, 39, 40, 86, 120, 121] hN ?_
  have u1 : IntKind.wrap .i64 (q0.tmod 8 + 8) = q0.tmod 8 + 8 := (modN_eq 8 (by omega) (by omega) q0).1
  have u2 : (q0.tmod 8 + 8).tmod 8 = 7 := by have := (modN_eq 8 (by omega) (by omega) q0).2.1; rw [h01] at this; exact this
  have z0 : ((q0.tmod 8 + 8).tmod 8 == 0) = false := by rw [u2]; rfl
  have z1 : ((q0.tmod 8 + 8).tmod 8 == 1) = false := by rw [u2]; rfl
  have z2 : ((q0.tmod 8 + 8).tmod 8 == 2) = false := by rw [u2]; rfl
  have z3 : ((q0.tmod 8 + 8).tmod 8 == 3) = false := by rw [u2]; rfl
  have z4 : ((q0.tmod 8 + 8).tmod 8 == 4) = false := by rw [u2]; rfl
  have z5 : ((q0.tmod 8 + 8).tmod 8 == 5) = false := by rw [u2]; rfl
  have z6 : ((q0.tmod 8 + 8).tmod 8 == 6) = false := by rw [u2]; rfl
  have z7 : ((q0.tmod 8 + 8).tmod 8 == 7) = true := by rw [u2]; rfl
  have hcl : ∀ e ∈ List.map (fun s => [D.s s]) cols, freeL e = true := by intro e he; obtain ⟨q, _, rfl⟩ := List.mem_map.1 he; rfl
  have hrl : ∀ e ∈ List.map (fun r => [rowV r]) rows, freeL e = true := by intro e he; obtain ⟨q, _, rfl⟩ := List.mem_map.1 he; rfl
  repeat (first | refine st_end rfl ?_ | ((first | refine st1 fun K k => ?_ | refine st2 fun K k => ?_ | refine st3 rfl fun K k => ?_ | refine st4 fun K k => ?_); simp only [go_sem]; refine k _ _ _ _ _ _ ?_; clear k K))
  (first | refine st1 fun K k => ?_ | refine st3 rfl fun K k => ?_); simp only [go_sem]
  refine callT (f50_none name cols rows hv) 4 (by simp only [go_sem]) (by omega) (by simp only [go_sem]) ?_
  simp only [go_sem]
  refine k _ _ _ _ _ _ ?_; clear k K
  by_cases hr : (0 : Int) < rows.length
  · obtain ⟨r, rest, rfl⟩ : ∃ r rest, rows = r :: rest := by
      cases rows with
      | nil => simp at hr
      | cons r rest => exact ⟨r, rest, rfl⟩
    have hrlen := hsq r (by simp)
    have s1 : (1 : Int) ≤ r.length := by omega
    have hr2 : (0 : Int) < ((rest.length + 1 : Nat) : Int) := by omega
    have s2 : (List.map encV r).take r.length = List.map encV r := List.take_of_length_le (by simp)
    repeat (first | refine st_end rfl ?_ | ((first | refine st1 fun K k => ?_ | refine st2 fun K k => ?_ | refine st3 rfl fun K k => ?_ | refine st4 fun K k => ?_); simp only [go_sem, u1, z0, z1, z2, z3, z4, z5, z6, z7, hr2, s1, s2, decide_true, Int.le_refl, Int.reduceLE, List.length_map, List.take_length]; refine k _ _ _ _ _ _ ?_; clear k K))
    have hrl' : ∀ e ∈ List.map (fun r => [rowV r]) rest, freeL e = true := fun e he => hrl e (by simp only [List.map_cons, List.mem_cons]; exact .inr he)
    have em : List.drop 1 (List.map encV r) = List.map encV (r.drop 1) := by rw [List.map_drop]
    have en : oddName name q0 q1 = name := by simp [oddName, h01]
    have ec : oddCols cols q0 = cols := by simp [oddCols, h01]
    have er : oddRows cols (r :: rest) q0 q1 q2 = r.drop 1 :: rest := by simp [oddRows, h01]
    rw [en, ec, er]
    refine odd_end (.inr rfl) (L := [2, 3]) (cs := [.s name, strsD cols, rowsV (r.drop 1 :: rest)]) ?_ ?_ ?_ (fun _ _ _ h => h)
    · simp only [go_sem, em]
      exact ⟨hcl, hrl'⟩
    · simp only [go_sem]
    · simp only [go_sem, List.length_map, List.length_append, List.length_replicate, em]
  · have hr0 : rows = [] := List.eq_nil_of_length_eq_zero (by omega)
    repeat (first | refine st_end rfl ?_ | ((first | refine st1 fun K k => ?_ | refine st2 fun K k => ?_ | refine st3 rfl fun K k => ?_ | refine st4 fun K k => ?_); simp only [go_sem, u1, z0, z1, z2, z3, z4, z5, z6, z7, hr, decide_false]; refine k _ _ _ _ _ _ ?_; clear k K))
    have en : oddName name q0 q1 = name := by simp [oddName, h01]
    have ec : oddCols cols q0 = cols := by simp [oddCols, h01]
    have er : oddRows cols rows q0 q1 q2 = rows := by simp [oddRows, h01, hr0]
    rw [en, ec, er]
    refine odd_end (.inr rfl) (L := [2, 3]) (cs := [.s name, strsD cols, rowsV rows]) ?_ ?_ ?_ (fun _ _ _ h => h)
    · simp only [go_sem]
      exact ⟨hcl, hrl⟩
    · simp only [go_sem]
    · simp only [go_sem, List.length_map, List.length_append, List.length_replicate]
theorem f14_6 (hv : Small (.mk 5 [] 0 0 0 cols rows)) (h01 : modN 8 q0 = 6) :
    FnOK sys 14 [.agg [.s name, strsD cols, rowsV rows], .agg [.v (.int .i64 q0), .v (.int .i64 q1), .v (.int .i64 q2)]] [] (.agg [.s (oddName name q0 q1), strsD (oddCols cols q0), rowsV (oddRows cols rows q0 q1 q2)]) [] := by
  obtain ⟨_, _, _, _, _, _, _, hl1, hl2, hl3, hl4⟩ := id hv
  refine FnOK.intro Tryz.f14 (by kernel_rfl) rfl rfl [.cell 4 28] rfl 0 rfl (Nat.le_of_ble_eq_true rfl) rfl rfl fun E hN h0 => W.code (N := 139) [3, 16, 29, 39, 40, 86, 120, 121] hN ?_
  have u1 : IntKind.wrap .i64 (q0.tmod 8 + 8) = q0.tmod 8 + 8 := (modN_eq 8 (by omega) (by omega) q0).1
  have u2 : (q0.tmod 8 + 8).tmod 8 = 6 := by have := (modN_eq 8 (by omega) (by omega) q0).2.1; rw [h01] at this; exact this
  have z0 : ((q0.tmod 8 + 8).tmod 8 == 0) = false := by rw [u2]; rfl
  have z1 : ((q0.tmod 8 + 8).tmod 8 == 1) = false := by rw [u2]; rfl
  have z2 : ((q0.tmod 8 + 8).tmod 8 == 2) = false := by rw [u2]; rfl
  have z3 : ((q0.tmod 8 + 8).tmod 8 == 3) = false := by rw [u2]; rfl
  have z4 : ((q0.tmod 8 + 8).tmod 8 == 4) = false := by rw [u2]; rfl
  have z5 : ((q0.tmod 8 + 8).tmod 8 == 5) = false := by rw [u2]; rfl
  have z6 : ((q0.tmod 8 + 8).tmod 8 == 6) = true := by rw [u2]; rfl
  have hcl : ∀ e ∈ List.map (fun s => [D.s s]) cols, freeL e = true := by intro e he; obtain ⟨q, _, rfl⟩ := List.mem_map.1 he; rfl
  have hrl : ∀ e ∈ List.map (fun r => [rowV r]) rows, freeL e = true := by intro e he; obtain ⟨q, _, rfl⟩ := List.mem_map.1 he; rfl
  have b1 : cols.length + 1 ≤ maxLen := by unfold maxLen; omega
  have b2 : (cols.length + 1) * 16 ≤ 140737488355328 := by omega
  have b5 : 96 * cols.length ≤ 281474976710656 := by omega
  have b6 : cols.length ≤ maxLen := by unfold maxLen; omega
  have hfree := zeroFree cols.length
  unfold zeroD at hfree
  have v1 : IntKind.wrap .i64 (q1.tmod 8 + 8) = q1.tmod 8 + 8 := (modN_eq 8 (by omega) (by omega) q1).1
  have v2 : (q1.tmod 8 + 8).tmod 8 = (modN 8 q1 : Int) := (modN_eq 8 (by omega) (by omega) q1).2.1
  have v3 := (modN_eq 8 (by omega) (by omega) q1).2.2
  have v4 : IntKind.wrap .i64 (95 + (modN 8 q1 : Int)) = ((95 + modN 8 q1 : Nat) : Int) := wrapTo (by omega)
  repeat (first | refine st_end rfl ?_ | ((first | refine st1 fun K k => ?_ | refine st2 fun K k => ?_ | refine st3 rfl fun K k => ?_ | refine st4 fun K k => ?_); simp only [go_sem]; refine k _ _ _ _ _ _ ?_; clear k K))
  (first | refine st1 fun K k => ?_ | refine st3 rfl fun K k => ?_); simp only [go_sem]
  refine callT (f50_none name cols rows hv) 4 (by simp only [go_sem]) (by omega) (by simp only [go_sem]) ?_
  simp only [go_sem]
  refine k _ _ _ _ _ _ ?_; clear k K
  repeat (first | refine st_end rfl ?_ | ((first | refine st1 fun K k => ?_ | refine st2 fun K k => ?_ | refine st3 rfl fun K k => ?_ | refine st4 fun K k => ?_); simp only [go_sem, u1, z0, z1, z2, z3, z4, z5, z6]; refine k _ _ _ _ _ _ ?_; clear k K))
  obtain ⟨m, hm⟩ : ∃ m, 95 + modN 8 q1 = m := ⟨_, rfl⟩
  have hm2 : m ≤ 200 := by omega
  rw [hm] at v4
  refine W.loopP (fun i : Nat => ⟨[(2, .ref 0 0), (3, .ep [.v (.int .i64 q0), .v (.int .i64 q1), .v (.int .i64 q2)]), (4, .ref 1 0), (6, .v (.int .i64 i))],
      [(0, .box [.s name, .own 2 cols.length, .own 3 (rows.length + i)]), (1, .box [.s [], .v (.slice none 0 0), .v (.slice none 0 0)]), (2, .row 9 1 (cols.map fun s => [.s s])), (3, .row 45 1 (rows.map (fun r => [rowV r]) ++ List.replicate i [.sl (List.replicate cols.length zeroD) 7]))], 4, []⟩)
    (fun i => i ≤ m) (fun i => m - i) 0 (Nat.zero_le _) (Into.le ?_ ?_ (Nat.le_refl _) rfl) fun i hi => W.code (N := 139) [3, 16, 29, 39, 40, 86, 120, 121] hN ?_
  · simp only [go_sem]
    exact LeD.refl _
  · simp only [go_sem, Nat.add_zero]
  by_cases hlt : (i : Int) < m
  · have b3 : rows.length + i + 1 ≤ maxLen := by unfold maxLen; omega
    have b4 : (rows.length + i + 1) * 24 ≤ 140737488355328 := by omega
    have w5 : IntKind.wrap .i64 ((i : Int) + 1) = ((i + 1 : Nat) : Int) := wrapTo (by omega)
    repeat (first | refine st_end rfl ?_ | ((first | refine st1 fun K k => ?_ | refine st2 fun K k => ?_ | refine st3 rfl fun K k => ?_ | refine st4 fun K k => ?_); simp only [go_sem, v1, v2, v4, hlt, decide_true, b3, b4, b5, b6, hfree, List.length_append, List.length_replicate, w5]; refine k _ _ _ _ _ _ ?_; clear k K))
    refine ⟨i + 1, by omega, by omega, (Into.ren h0 [(0, 0), (1, 1), (2, 2), (3, 4)] 4 rfl).trans (Into.le ?_ ?_ (Nat.le_refl _) rfl)⟩
    · simp only [go_sem, newOf]
    · simp only [go_sem, newOf, zeroD, List.map_replicate, List.append_assoc, Nat.add_assoc]
      rw [← List.replicate_succ', List.replicate_succ]
      exact LeO.refl _
  · obtain rfl : i = m := by omega
    repeat (first | refine st_end rfl ?_ | ((first | refine st1 fun K k => ?_ | refine st2 fun K k => ?_ | refine st3 rfl fun K k => ?_ | refine st4 fun K k => ?_); simp only [go_sem, v1, v2, v4, hlt, decide_false]; refine k _ _ _ _ _ _ ?_; clear k K))
    refine iq Into.refl ?_
    repeat (first | refine st_end rfl ?_ | ((first | refine st1 fun K k => ?_ | refine st2 fun K k => ?_ | refine st3 rfl fun K k => ?_ | refine st4 fun K k => ?_); simp only [go_sem]; refine k _ _ _ _ _ _ ?_; clear k K))
    have en : oddName name q0 q1 = name := by simp [oddName, h01]
    have ec : oddCols cols q0 = cols := by simp [oddCols, h01]
    have er : oddRows cols rows q0 q1 q2 = rows ++ List.replicate i (List.replicate cols.length zeroV) := by simp [oddRows, h01, hm]
    rw [en, ec, er]
    refine odd_end (.inr rfl) (L := [2, 3]) (cs := [.s name, strsD cols, .sl (rows.map (fun r => [rowV r]) ++ List.replicate i [.sl (List.replicate cols.length zeroD) 7]) 1]) ?_ ?_ ?_ (LeL.cons (LeD.refl _) (LeL.cons (LeD.refl _) (LeL.cons ?_ LeL.nil)))
    · simp only [go_sem, zeroD]
      refine ⟨hcl, fun e he => ?_⟩
      rcases List.mem_append.1 he with he | he
      · exact hrl e he
      · rw [List.eq_of_mem_replicate he]; rfl
    · simp only [go_sem]
    · simp only [go_sem, List.length_map, List.length_append, List.length_replicate, zeroD]
    · have e2 : rowsV (rows ++ List.replicate i (List.replicate cols.length zeroV)) = .sl (rows.map (fun r => [rowV r]) ++ List.replicate i [rowV (List.replicate cols.length zeroV)]) 1 := by simp [rowsV, rowV]
      rw [e2]
      refine LeD.appR (by simp) (fun a x y hx hy => ?_) (fun e he => by obtain ⟨q, _, rfl⟩ := List.mem_map.1 he; rfl) (fun e he => by rw [List.eq_of_mem_replicate he]; rfl)
      rw [List.eq_of_mem_replicate (List.mem_of_getElem? hx), List.eq_of_mem_replicate (List.mem_of_getElem? hy)]
      exact LeL.cons (zeroRow _) LeL.nil
theorem f14_3 (hv : Small (.mk 5 [] 0 0 0 cols rows)) (h01 : modN 8 q0 = 3) (hc1 : 1 ≤ cols.length) (hsq : ∀ r ∈ rows, r.length = cols.length) :
    FnOK sys 14 [.agg [.s name, strsD cols, rowsV rows], .agg [.v (.int .i64 q0), .v (.int .i64 q1), .v (.int .i64 q2)]] [] (.agg [.s (oddName name q0 q1), strsD (oddCols cols q0), rowsV (oddRows cols rows q0 q1 q2)]) [] := by
  obtain ⟨_, _, _, _, _, _, _, hl1, hl2, hl3, hl4⟩ := id hv
  refine FnOK.intro Tryz.f14 (by kernel_rfl) rfl rfl [.cell 4 28] rfl 0 rfl (Nat.le_of_ble_eq_true rfl) rfl rfl fun E hN h0 => W.code (N := 139) [3, 16, 29, 39, 40, 86, 120, 121] hN ?_
  have u1 : IntKind.wrap .i64 (q0.tmod 8 + 8) = q0.tmod 8 + 8 := (modN_eq 8 (by omega) (by omega) q0).1
  have u2 : (q0.tmod 8 + 8).tmod 8 = 3 := by have := (modN_eq 8 (by omega) (by omega) q0).2.1; rw [h01] at this; exact this
  have z0 : ((q0.tmod 8 + 8).tmod 8 == 0) = false := by rw [u2]; rfl
  have z1 : ((q0.tmod 8 + 8).tmod 8 == 1) = false := by rw [u2]; rfl
  have z2 : ((q0.tmod 8 + 8).tmod 8 == 2) = false := by rw [u2]; rfl
  have z3 : ((q0.tmod 8 + 8).tmod 8 == 3) = true := by rw [u2]; rfl
  have hcl : ∀ e ∈ List.map (fun s => [D.s s]) cols, freeL e = true := by intro e he; obtain ⟨q, _, rfl⟩ := List.mem_map.1 he; rfl
  have hrl : ∀ e ∈ List.map (fun r => [rowV r]) rows, freeL e = true := by intro e he; obtain ⟨q, _, rfl⟩ := List.mem_map.1 he; rfl
  have hcn : ¬ (cols.length : Int) = 0 := by omega
  have w1 : IntKind.wrap .i64 (q2.tmod cols.length + cols.length) = q2.tmod cols.length + cols.length := (modN_eq cols.length (by omega) (by omega) q2).1
  have w2 : (q2.tmod cols.length + cols.length).tmod cols.length = (modN cols.length q2 : Int) := (modN_eq cols.length (by omega) (by omega) q2).2.1
  have w3 := (modN_eq cols.length (by omega) (by omega) q2).2.2
  have h51 := f51_ok [q1, q2]
  by_cases hr : (0 : Int) < rows.length
  · have hrn : ¬ (rows.length : Int) = 0 := by omega
    have x1 : IntKind.wrap .i64 (q1.tmod rows.length + rows.length) = q1.tmod rows.length + rows.length := (modN_eq rows.length (by omega) (by omega) q1).1
    have x2 : (q1.tmod rows.length + rows.length).tmod rows.length = (modN rows.length q1 : Int) := (modN_eq rows.length (by omega) (by omega) q1).2.1
    have x3 := (modN_eq rows.length (by omega) (by omega) q1).2.2
    obtain ⟨k0, hk0⟩ : ∃ k0, modN rows.length q1 = k0 := ⟨_, rfl⟩
    obtain ⟨j0, hj0⟩ : ∃ j0, modN cols.length q2 = j0 := ⟨_, rfl⟩
    rw [hk0] at x2 x3
    rw [hj0] at w2 w3
    obtain ⟨r, hrk⟩ := getS (l := rows) (i := k0) x3
    have hrlen := hsq r (List.mem_of_getElem? hrk)
    have er : oddRows cols rows q0 q1 q2 = rows.take k0 ++ r.set j0 (madeOf [q1, q2]) :: rows.drop (k0 + 1) := by simp [oddRows, h01, hk0, hj0, hrk]
    obtain ⟨v, hv51⟩ : ∃ v, madeOf [q1, q2] = v := ⟨_, rfl⟩
    rw [hv51] at h51 er
    have hget : (rowsO k0 4 r rows)[k0]? = some [.own 4 r.length] := by
      unfold rowsO
      have hlen : (List.map (fun r => [rowV r]) (rows.take k0)).length = k0 := by simp; omega
      rw [List.getElem?_append_right (by omega), hlen, Nat.sub_self]
      rfl
    have hrol : (rowsO k0 4 r rows).length = rows.length := by
      simp [rowsO]; omega
    have k1 : (k0 : Int) < rows.length := by omega
    have j1 : (j0 : Int) < r.length := by omega
    repeat (first | refine st_end rfl ?_ | ((first | refine st1 fun K k => ?_ | refine st2 fun K k => ?_ | refine st3 rfl fun K k => ?_ | refine st4 fun K k => ?_); simp only [go_sem]; refine k _ _ _ _ _ _ ?_; clear k K))
    (first | refine st1 fun K k => ?_ | refine st3 rfl fun K k => ?_); simp only [go_sem]
    refine callT (f50_some k0 r name cols rows hv hrk) 5 (by simp only [go_sem]) (by omega) (by simp only [go_sem]) ?_
    simp only [go_sem]
    refine k _ _ _ _ _ _ ?_; clear k K
    repeat (first | refine st_end rfl ?_ | ((first | refine st1 fun K k => ?_ | refine st2 fun K k => ?_ | refine st3 rfl fun K k => ?_ | refine st4 fun K k => ?_); simp only [go_sem, u1, z0, z1, z2, z3, hr, decide_true, hrn, x1, x2]; refine k _ _ _ _ _ _ ?_; clear k K))
    repeat (first | refine st_end rfl ?_ | ((first | refine st1 fun K k => ?_ | refine st2 fun K k => ?_ | refine st3 rfl fun K k => ?_ | refine st4 fun K k => ?_); simp only [go_sem, hget, k1, hcn, w1, w2]; refine k _ _ _ _ _ _ ?_; clear k K))
    obtain ⟨kd', s', dn', ds', num', c', r'⟩ := v
    simp only [encV] at h51
    (first | refine st1 fun K k => ?_ | refine st3 rfl fun K k => ?_); simp only [go_sem]; refine callP (h51) ?_; refine k _ _ _ _ _ _ ?_; clear k K
    obtain ⟨e0, he0⟩ := getS (l := r) (i := j0) (by omega)
    have hdrop : (encV e0).drop 7 = [] := List.drop_of_length_le (by rw [encV_len]; omega)
    have hmset : (List.map encV r).set j0 (encV (.mk kd' s' dn' ds' num' c' r')) = List.map encV (r.set j0 (.mk kd' s' dn' ds' num' c' r')) := by rw [List.map_set]
    simp only [encV, strsD] at hmset
    repeat (first | refine st_end rfl ?_ | ((first | refine st1 fun K k => ?_ | refine st2 fun K k => ?_ | refine st3 rfl fun K k => ?_ | refine st4 fun K k => ?_); simp only [go_sem, j1, he0, hdrop, encV_len, Nat.le_refl, hmset]; refine k _ _ _ _ _ _ ?_; clear k K))
    refine Done.into (Into.frz [4] ?_) ?_
    · simp only [go_sem]
      intro e he
      obtain ⟨q, _, rfl⟩ := List.mem_map.1 he
      exact freeL_enc q
    have en : oddName name q0 q1 = name := by simp [oddName, h01]
    have ec : oddCols cols q0 = cols := by simp [oddCols, h01]
    rw [en, ec, er]
    refine odd_end (.inr rfl) (L := [2, 3]) (cs := [.s name, strsD cols, rowsV (rows.take k0 ++ r.set j0 (.mk kd' s' dn' ds' num' c' r') :: rows.drop (k0 + 1))]) ?_ ?_ ?_ (fun _ _ _ h => h)
    · simp only [go_sem, rowsO, List.length_set]
      refine ⟨hcl, fun e he => ?_⟩
      rcases List.mem_append.1 he with he | he
      · obtain ⟨q, _, rfl⟩ := List.mem_map.1 he; rfl
      · rcases List.mem_cons.1 he with rfl | he
        · rfl
        · obtain ⟨q, _, rfl⟩ := List.mem_map.1 he; rfl
    · simp only [go_sem]
    · have hlt : decide (rows.length = (List.take k0 rows).length + ((List.drop (k0 + 1) rows).length + 1)) = true := by simp; omega
      simp only [go_sem, List.length_map, List.length_append, List.length_set, rowsO, hlt]
  · have hr0 : rows = [] := List.eq_nil_of_length_eq_zero (by omega)
    repeat (first | refine st_end rfl ?_ | ((first | refine st1 fun K k => ?_ | refine st2 fun K k => ?_ | refine st3 rfl fun K k => ?_ | refine st4 fun K k => ?_); simp only [go_sem]; refine k _ _ _ _ _ _ ?_; clear k K))
    (first | refine st1 fun K k => ?_ | refine st3 rfl fun K k => ?_); simp only [go_sem]
    refine callT (f50_none name cols rows hv) 4 (by simp only [go_sem]) (by omega) (by simp only [go_sem]) ?_
    simp only [go_sem]
    refine k _ _ _ _ _ _ ?_; clear k K
    repeat (first | refine st_end rfl ?_ | ((first | refine st1 fun K k => ?_ | refine st2 fun K k => ?_ | refine st3 rfl fun K k => ?_ | refine st4 fun K k => ?_); simp only [go_sem, u1, z0, z1, z2, z3, hr, decide_false]; refine k _ _ _ _ _ _ ?_; clear k K))
    have en : oddName name q0 q1 = name := by simp [oddName, h01]
    have ec : oddCols cols q0 = cols := by simp [oddCols, h01]
    have er : oddRows cols rows q0 q1 q2 = rows := by simp [oddRows, h01, hr0]
    rw [en, ec, er]
    refine odd_end (.inr rfl) (L := [2, 3]) (cs := [.s name, strsD cols, rowsV rows]) ?_ ?_ ?_ (fun _ _ _ h => h)
    · simp only [go_sem]
      exact ⟨hcl, hrl⟩
    · simp only [go_sem]
    · simp only [go_sem, List.length_map, List.length_append, List.length_replicate]
/-- The reference's Odd. -/
theorem f14_ok (hv : Small (.mk 5 [] 0 0 0 cols rows)) (hc1 : 1 ≤ cols.length) (hsq : ∀ r ∈ rows, r.length = cols.length) :
    FnOK sys 14 [.agg [.s name, strsD cols, rowsV rows], .agg [.v (.int .i64 q0), .v (.int .i64 q1), .v (.int .i64 q2)]] [] (.agg [.s (oddName name q0 q1), strsD (oddCols cols q0), rowsV (oddRows cols rows q0 q1 q2)]) [] := by
  have h8 := (modN_eq 8 (by omega) (by omega) q0).2.2
  obtain ⟨m, hm⟩ : ∃ m, modN 8 q0 = m := ⟨_, rfl⟩
  rw [hm] at h8
  rcases m with _ | _ | _ | _ | _ | _ | _ | _ | m
  · exact f14_0 name cols rows q0 q1 q2 hv hm
  · exact f14_1 name cols rows q0 q1 q2 hv hm
  · exact f14_2 name cols rows q0 q1 q2 hv hm
  · exact f14_3 name cols rows q0 q1 q2 hv hm hc1 hsq
  · exact f14_4 name cols rows q0 q1 q2 hv hm
  · exact f14_5 name cols rows q0 q1 q2 hv hm
  · exact f14_6 name cols rows q0 q1 q2 hv hm
  · exact f14_7 name cols rows q0 q1 q2 hv hm hc1 hsq
  · omega
end
end Go.Proofs.YtjgooecohepkoaaGreatDoor
namespace Go.Proofs.YtjgooecohepkoaaGreatDoor
open Go Go.Abs
set_option linter.unusedSimpArgs false
set_option maxHeartbeats 2000000
/-! ### What is found -/
open Classical in
noncomputable def hitR (a : Nat) (v : Val) (r : List Val) : Bool := decide ((r.getD a zeroV).kind ≠ 0 ∧ r.getD a zeroV = v)
open Classical in
noncomputable def findC (cols : List (List UInt8)) (rows : List (List Val)) (key : List UInt8) (v : Val) (col : List UInt8) : Val × Int :=
  if key ∈ cols ∧ col ∈ cols then
    (match rows.find? (hitR (ix cols key) v) with
      | some r => if (r.getD (ix cols col) zeroV).kind = 0 then (zeroV, 18) else (r.getD (ix cols col) zeroV, 0)
      | none => (zeroV, 18))
  else (zeroV, 13)
open Classical in
theorem findC_eq {cols : List (List UInt8)} (rows : List (List Val)) {key : List UInt8} (v : Val) {col : List UInt8} (h1 : key ∈ cols) (h2 : col ∈ cols) : findC cols rows key v col =
    (match rows.find? (hitR (ix cols key) v) with
      | some r => if (r.getD (ix cols col) zeroV).kind = 0 then (zeroV, 18) else (r.getD (ix cols col) zeroV, 0)
      | none => (zeroV, 18)) := by unfold findC; rw [if_pos ⟨h1, h2⟩]
noncomputable def findT (name : List UInt8) (cols : List (List UInt8)) (rows : List (List Val)) (key : List UInt8) (v : Val) (col : List UInt8) : Val × Int :=
  if rightT name cols rows then findC cols rows key v col else (zeroV, 1)
theorem find_at {α : Type} (f : α → Bool) : ∀ (l : List α) (k : Nat) (r : α), (∀ i x, i < k → l[i]? = some x → f x = false) → l[k]? = some r → f r = true → l.find? f = some r
  | [], k, r, _, h, _ => by simp at h
  | y :: l, 0, r, _, h, hf => by simp at h; subst h; simp [hf]
  | y :: l, k + 1, r, hn, h, hf => by
    have h0 := hn 0 y (by omega) rfl
    rw [List.find?_cons, h0]
    exact find_at f l k r (fun i x hi hx => hn (i + 1) x (by omega) (by simpa using hx)) (by simpa using h) hf
theorem find_no {α : Type} (f : α → Bool) (l : List α) (h : ∀ (i : Nat) (x : α), l[i]? = some x → f x = false) : l.find? f = none := by
  rw [List.find?_eq_none]
  intro x hx
  obtain ⟨i, hi⟩ := List.mem_iff_getElem?.1 hx
  simp [h i x hi]
def zeroA : D := .agg [.v (.int .i64 0), .s [], .v (.int .i64 0), .v (.int .i64 0), .v (.int .i64 0), .v (.slice none 0 0), .v (.slice none 0 0)]
theorem zeroTup (e : Int) : LeD (.tup [zeroA, .v (.int .i64 e)]) (.tup [.agg (encV zeroV), .v (.int .i64 e)]) := LeD.tup (LeL.cons (LeD.agg zeroLe) (LeL.cons (LeD.refl _) LeL.nil))
theorem ix_lt {cols : List (List UInt8)} {s : List UInt8} (h : s ∈ cols) : ix cols s < cols.length := (ix_eq h).2
theorem getD_some {r : List Val} {i : Nat} {x : Val} (h : r[i]? = some x) : r.getD i zeroV = x := by rw [List.getD_eq_getElem?_getD, h]; rfl
theorem rightT_rows {name : List UInt8} {cols : List (List UInt8)} {rows : List (List Val)} (h : rightT name cols rows = true) : ∀ r ∈ rows, r.length = cols.length := by
  simp only [rightT, Bool.and_eq_true] at h
  exact rowsR_len h.1.2.2
open Classical in
theorem f17_ok (name : List UInt8) (cols : List (List UInt8)) (rows : List (List Val)) (key : List UInt8) (v : Val) (col : List UInt8) (hn : name.length ≤ 1000000) (hcs : ∀ c ∈ cols, c.length ≤ 1000000) (hrs : ∀ row ∈ rows, ∀ v ∈ row, v.str.length ≤ 1000000) :
    FnOK sys 17 [.agg [.s name, strsD cols, rowsV rows], .s key, .agg (encV v), .s col] [] (.tup [.agg (encV (findT name cols rows key v col).1), .v (.int .i64 (findT name cols rows key v col).2)]) [] := by
  obtain ⟨kd, s, dn, ds, num, cs, rs⟩ := v
  have h20 := f20_ok name cols rows hn hcs hrs
  cases hr : rightT name cols rows with
  | false =>
    have e : findT name cols rows key (.mk kd s dn ds num cs rs) col = (zeroV, 1) := by simp [findT, hr]
    rw [e]
    refine FnOK.leRes ?_ (zeroTup 1)
    rw [hr] at h20
    refine FnOK.intro Tryz.f17 (by kernel_rfl) rfl rfl [.cell 8 33, .tmp 9] rfl 0 rfl (Nat.le_of_ble_eq_true rfl) rfl rfl fun E hN h0 => W.code (N := 74) [4, 6] hN ?_
    simp only [encV]
    repeat (first | refine st_end rfl ?_ | ((first | refine st1 fun K k => ?_ | refine st2 fun K k => ?_ | refine st3 rfl fun K k => ?_ | refine st4 fun K k => ?_); simp only [go_sem]; refine k _ _ _ _ _ _ ?_; clear k K))
    (first | refine st1 fun K k => ?_ | refine st3 rfl fun K k => ?_); simp only [go_sem]; refine callP (h20) ?_; refine k _ _ _ _ _ _ ?_; clear k K
    repeat (first | refine st_end rfl ?_ | ((first | refine st1 fun K k => ?_ | refine st2 fun K k => ?_ | refine st3 rfl fun K k => ?_ | refine st4 fun K k => ?_); simp only [go_sem]; refine k _ _ _ _ _ _ ?_; clear k K))
    refine Done.mk (.inr rfl) Into.refl ?_ [] 0 ?_ ?_ ?_ ?_
    · rfl
    · rfl
    · simp only [go_sem, zeroA]
    · trivial
    · rfl
  | true =>
  have hlen := rightT_rows hr
  have e : findT name cols rows key (.mk kd s dn ds num cs rs) col = findC cols rows key (.mk kd s dn ds num cs rs) col := by simp [findT, hr]
  rw [e]
  rw [hr] at h20
  by_cases hk : key ∈ cols ∧ col ∈ cols
  case neg =>
    have e : findC cols rows key (.mk kd s dn ds num cs rs) col = (zeroV, 13) := by unfold findC; rw [if_neg hk]
    rw [e]
    refine FnOK.leRes ?_ (zeroTup 13)
    refine FnOK.intro Tryz.f17 (by kernel_rfl) rfl rfl [.cell 8 33, .tmp 9] rfl 0 rfl (Nat.le_of_ble_eq_true rfl) rfl rfl fun E hN h0 => W.code (N := 74) [4, 6] hN ?_
    simp only [encV]
    repeat (first | refine st_end rfl ?_ | ((first | refine st1 fun K k => ?_ | refine st2 fun K k => ?_ | refine st3 rfl fun K k => ?_ | refine st4 fun K k => ?_); simp only [go_sem]; refine k _ _ _ _ _ _ ?_; clear k K))
    (first | refine st1 fun K k => ?_ | refine st3 rfl fun K k => ?_); simp only [go_sem]; refine callP (h20) ?_; refine k _ _ _ _ _ _ ?_; clear k K
    repeat (first | refine st_end rfl ?_ | ((first | refine st1 fun K k => ?_ | refine st2 fun K k => ?_ | refine st3 rfl fun K k => ?_ | refine st4 fun K k => ?_); simp only [go_sem]; refine k _ _ _ _ _ _ ?_; clear k K))
    (first | refine st1 fun K k => ?_ | refine st3 rfl fun K k => ?_); simp only [go_sem]; refine callP (f56_ok cols key) ?_; refine k _ _ _ _ _ _ ?_; clear k K
    repeat (first | refine st_end rfl ?_ | ((first | refine st1 fun K k => ?_ | refine st2 fun K k => ?_ | refine st3 rfl fun K k => ?_ | refine st4 fun K k => ?_); simp only [go_sem]; refine k _ _ _ _ _ _ ?_; clear k K))
    (first | refine st1 fun K k => ?_ | refine st3 rfl fun K k => ?_); simp only [go_sem]; refine callP (f56_ok cols col) ?_; refine k _ _ _ _ _ _ ?_; clear k K
    by_cases h1 : key ∈ cols
    · have h2 : col ∉ cols := fun h => hk ⟨h1, h⟩
      obtain ⟨i1, i2⟩ := ix_eq h1
      have n1 : ¬ ((ix cols key : Int) < 0) := by omega
      have n2 := ix_neg h2
      repeat (first | refine st_end rfl ?_ | ((first | refine st1 fun K k => ?_ | refine st2 fun K k => ?_ | refine st3 rfl fun K k => ?_ | refine st4 fun K k => ?_); simp only [go_sem, i1, n1, n2, decide_true, decide_false]; refine k _ _ _ _ _ _ ?_; clear k K))
      refine Done.mk (.inr rfl) Into.refl ?_ [] 0 ?_ ?_ ?_ ?_
      · rfl
      · rfl
      · simp only [go_sem, zeroA]
      · trivial
      · rfl
    · have n1 := ix_neg h1
      repeat (first | refine st_end rfl ?_ | ((first | refine st1 fun K k => ?_ | refine st2 fun K k => ?_ | refine st3 rfl fun K k => ?_ | refine st4 fun K k => ?_); simp only [go_sem, n1, decide_true]; refine k _ _ _ _ _ _ ?_; clear k K))
      refine Done.mk (.inr rfl) Into.refl ?_ [] 0 ?_ ?_ ?_ ?_
      · rfl
      · rfl
      · simp only [go_sem, zeroA]
      · trivial
      · rfl
  obtain ⟨h1, h2⟩ := hk
  obtain ⟨i1, i2⟩ := ix_eq h1
  obtain ⟨j1, j2⟩ := ix_eq h2
  have n1 : ¬ ((ix cols key : Int) < 0) := by omega
  have n2 : ¬ ((ix cols col : Int) < 0) := by omega
  have ef : findC cols rows key (.mk kd s dn ds num cs rs) col = (match rows.find? (hitR (ix cols key) (.mk kd s dn ds num cs rs)) with
      | some r => if (r.getD (ix cols col) zeroV).kind = 0 then (zeroV, 18) else (r.getD (ix cols col) zeroV, 0)
      | none => (zeroV, 18)) := by unfold findC; rw [if_pos ⟨h1, h2⟩]
  refine FnOK.intro Tryz.f17 (by kernel_rfl) rfl rfl [.cell 8 33, .tmp 9] rfl 0 rfl (Nat.le_of_ble_eq_true rfl) rfl rfl fun E hN h0 => W.boundA 0 2 rfl rfl fun hb => W.code (N := 74) [4, 6] hN ?_
  simp only [List.length_map, maxLen] at hb
  have f57 := fun x => f57_ok x (.mk kd s dn ds num cs rs)
  obtain ⟨hit, hhit⟩ : ∃ hit : List Val → Bool, hitR (ix cols key) (.mk kd s dn ds num cs rs) = hit := ⟨_, rfl⟩
  have hhit2 : ∀ (r : List Val) (x : Val), r[ix cols key]? = some x → hit r = decide (x.kind ≠ 0 ∧ x = (.mk kd s dn ds num cs rs)) := by
    intro r x hx
    rw [← hhit]; unfold hitR; rw [getD_some hx]
  rw [hhit] at ef
  simp only [encV] at f57 ⊢
  repeat (first | refine st_end rfl ?_ | ((first | refine st1 fun K k => ?_ | refine st2 fun K k => ?_ | refine st3 rfl fun K k => ?_ | refine st4 fun K k => ?_); simp only [go_sem]; refine k _ _ _ _ _ _ ?_; clear k K))
  (first | refine st1 fun K k => ?_ | refine st3 rfl fun K k => ?_); simp only [go_sem]; refine callP (h20) ?_; refine k _ _ _ _ _ _ ?_; clear k K
  repeat (first | refine st_end rfl ?_ | ((first | refine st1 fun K k => ?_ | refine st2 fun K k => ?_ | refine st3 rfl fun K k => ?_ | refine st4 fun K k => ?_); simp only [go_sem]; refine k _ _ _ _ _ _ ?_; clear k K))
  (first | refine st1 fun K k => ?_ | refine st3 rfl fun K k => ?_); simp only [go_sem]; refine callP (f56_ok cols key) ?_; refine k _ _ _ _ _ _ ?_; clear k K
  repeat (first | refine st_end rfl ?_ | ((first | refine st1 fun K k => ?_ | refine st2 fun K k => ?_ | refine st3 rfl fun K k => ?_ | refine st4 fun K k => ?_); simp only [go_sem]; refine k _ _ _ _ _ _ ?_; clear k K))
  (first | refine st1 fun K k => ?_ | refine st3 rfl fun K k => ?_); simp only [go_sem]; refine callP (f56_ok cols col) ?_; refine k _ _ _ _ _ _ ?_; clear k K
  repeat (first | refine st_end rfl ?_ | ((first | refine st1 fun K k => ?_ | refine st2 fun K k => ?_ | refine st3 rfl fun K k => ?_ | refine st4 fun K k => ?_); simp only [go_sem, i1, j1, n1, n2, decide_false]; refine k _ _ _ _ _ _ ?_; clear k K))
  refine W.loopP (fun i : Nat => ⟨[(4, .ep [.s name, strsD cols, rowsV rows]), (6, .ep [.v (.int .i64 kd), .s s, .v (.int .i64 dn), .v (.int .i64 ds), .v (.int .i64 num), strsD cs, .sl (encRs rs) 1]), (8, .ref 0 0), (11, .v (.int .i64 (ix cols key))), (12, .v (.int .i64 (ix cols col))), (13, .v (.int .i64 i))],
      [(0, .box [.v (.int .i64 0), .s [], .v (.int .i64 0), .v (.int .i64 0), .v (.int .i64 0), .v (.slice none 0 0), .v (.slice none 0 0)])], 1, []⟩)
    (fun i => i ≤ rows.length ∧ ∀ a r, a < i → rows[a]? = some r → hit r = false) (fun i => rows.length - i) 0 ⟨by omega, by omega⟩ (Into.le ?_ ?_ (Nat.le_refl _) rfl) fun i hi => W.code (N := 74) [4, 6] hN ?_
  · simp only [go_sem, i1, j1]
    exact LeD.refl _
  · simp only [go_sem]
  repeat (first | refine st_end rfl ?_ | ((first | refine st1 fun K k => ?_ | refine st2 fun K k => ?_ | refine st3 rfl fun K k => ?_ | refine st4 fun K k => ?_); simp only [go_sem]; refine k _ _ _ _ _ _ ?_; clear k K))
  refine st_cond fun A B a b => ?_; simp only [go_sem]; refine ⟨fun g => a ?_, fun g => b ?_⟩ <;> clear a b A B
  · obtain ⟨r, hr⟩ := getS (l := rows) (i := i) (by omega)
    have hrl := hlen r (List.mem_of_getElem? hr)
    obtain ⟨x, hx⟩ := getS (l := r) (i := ix cols key) (by omega)
    obtain ⟨y, hy⟩ := getS (l := r) (i := ix cols col) (by omega)
    have hh := hhit2 r x hx
    have hf := f57 x
    repeat (first | refine st_end rfl ?_ | ((first | refine st1 fun K k => ?_ | refine st2 fun K k => ?_ | refine st3 rfl fun K k => ?_ | refine st4 fun K k => ?_); simp only [go_sem, hr, hx, encV_len, encV_take, Nat.le_refl]; refine k _ _ _ _ _ _ ?_; clear k K))
    (first | refine st1 fun K k => ?_ | refine st3 rfl fun K k => ?_); simp only [go_sem]; refine callP (hf) ?_; refine k _ _ _ _ _ _ ?_; clear k K
    rw [← hh]
    cases hq : hit r with
    | false =>
      have w5 : IntKind.wrap .i64 ((i : Int) + 1) = ((i + 1 : Nat) : Int) := wrapTo (by omega)
      repeat (first | refine st_end rfl ?_ | ((first | refine st1 fun K k => ?_ | refine st2 fun K k => ?_ | refine st3 rfl fun K k => ?_ | refine st4 fun K k => ?_); simp only [go_sem, w5]; refine k _ _ _ _ _ _ ?_; clear k K))
      refine ⟨i + 1, ⟨by omega, fun a r' ha hr' => ?_⟩, by omega, Into.le ?_ ?_ (Nat.le_refl _) rfl⟩
      · by_cases e : a = i
        · rw [e, hr] at hr'; cases hr'; exact hq
        · exact hi.2 a r' (by omega) hr'
      · simp only [go_sem]
      · simp only [go_sem]
    | true =>
      have hfind := find_at hit rows i r (fun a r' ha hr' => hi.2 a r' ha hr') hr hq
      rw [hfind] at ef
      simp only [getD_some hy] at ef
      obtain ⟨kd2, s2, dn2, ds2, num2, cs2, rs2⟩ := y
      by_cases z : kd2 = 0
      · have z' : (kd2 == 0) = true := by simpa using z
        rw [if_pos (show Val.kind (.mk kd2 s2 dn2 ds2 num2 cs2 rs2) = 0 from z)] at ef
        rw [ef]
        repeat (first | refine st_end rfl ?_ | ((first | refine st1 fun K k => ?_ | refine st2 fun K k => ?_ | refine st3 rfl fun K k => ?_ | refine st4 fun K k => ?_); simp only [go_sem, hr, hy, encV, z']; refine k _ _ _ _ _ _ ?_; clear k K))
        refine iq (Into.le (st' := ⟨[(8, .ref 0 0), (9, .v (.int .i64 18))], [(0, .box (encV zeroV))], 1, []⟩) ?_ ?_ (Nat.le_refl _) rfl) (Done.mk (.inr rfl) Into.refl ?_ [] 0 ?_ ?_ ?_ ?_)
        · simp only [go_sem]
        · simp only [go_sem]
          exact LeO.box zeroLe
        · rfl
        · rfl
        · simp only [go_sem, encV, zeroV]
        · trivial
        · rfl
      · have z' : (kd2 == 0) = false := by simpa using z
        rw [if_neg (show ¬ Val.kind (.mk kd2 s2 dn2 ds2 num2 cs2 rs2) = 0 from z)] at ef
        rw [ef]
        repeat (first | refine st_end rfl ?_ | ((first | refine st1 fun K k => ?_ | refine st2 fun K k => ?_ | refine st3 rfl fun K k => ?_ | refine st4 fun K k => ?_); simp only [go_sem, hr, hy, encV, z']; refine k _ _ _ _ _ _ ?_; clear k K))
        refine iq Into.refl (Done.mk (.inr rfl) Into.refl ?_ [] 0 ?_ ?_ ?_ ?_)
        · rfl
        · rfl
        · simp only [go_sem, encV]
        · trivial
        · rfl
  · obtain rfl : i = rows.length := by omega
    have hnf := find_no hit rows fun a r hr => hi.2 a r (List.getElem?_eq_some_iff.1 hr).1 hr
    rw [hnf] at ef
    rw [ef]
    refine iq Into.refl ?_
    repeat (first | refine st_end rfl ?_ | ((first | refine st1 fun K k => ?_ | refine st2 fun K k => ?_ | refine st3 rfl fun K k => ?_ | refine st4 fun K k => ?_); simp only [go_sem]; refine k _ _ _ _ _ _ ?_; clear k K))
    refine Done.into (Into.le (st' := ⟨[(8, .ref 0 0), (9, .v (.int .i64 18))], [(0, .box (encV zeroV))], 1, []⟩) ?_ ?_ (Nat.le_refl _) rfl) (Done.mk (.inr rfl) Into.refl ?_ [] 0 ?_ ?_ ?_ ?_)
    · simp only [go_sem]
    · simp only [go_sem]
      exact LeO.box zeroLe
    · rfl
    · rfl
    · simp only [go_sem, encV, zeroV]
    · trivial
    · rfl
end Go.Proofs.YtjgooecohepkoaaGreatDoor
