/- Contracts of the functions that the statement reaches. -/
import Derived.Test.YtjgooecohepkoaaGreatDoorSAI
import Derived.Test.YtjgooecohepkoaaGreatDoorSAD
import Derived.Test.YtjgooecohepkoaaGreatDoorSAH
import Derived.Test.YtjgooecohepkoaaGreatDoorSAG
set_option linter.unusedVariables false
set_option linter.unusedSimpArgs false
namespace Go.Proofs.YtjgooecohepkoaaGreatDoor
open Go Go.Abs
set_option linter.unusedSimpArgs false
set_option maxHeartbeats 2000000
/-! ### Values that numbers determine -/
def dateV (L : List Int) (i : Nat) : Int := if nextV L (i + 1) 8 = 7 then nextV L (i + 2) 3652059 else 738000 + nextV L i 1000
def valV (L : List Int) (i : Nat) (k : Int) : Val :=
  if k = 1 then .mk 1 (textV L i) 0 0 0 [] [] else if k = 2 then .mk 2 [] (decV L i).1 (decV L i).2 0 [] [] else if k = 3 then .mk 3 [] 0 0 (dateV L i) [] []
  else if k = 4 then .mk 4 [] 0 0 (nextV L i 2) [] [] else .mk 0 [] 0 0 (nextV L i 100) [] []
def valK (L : List Int) (i : Nat) (k : Int) : Nat :=
  if k = 1 then textK L i else if k = 2 then decK L i else if k = 3 then (if nextV L (i + 1) 8 = 7 then i + 3 else i + 2) else i + 1
theorem flatLe (kd : Int) (s : List UInt8) (dn ds n : Int) : LeD (.agg [.v (.int .i64 kd), .s s, .v (.int .i64 dn), .v (.int .i64 ds), .v (.int .i64 n), .v (.slice none 0 0), .v (.slice none 0 0)]) (.agg (encV (.mk kd s dn ds n [] []))) := by
  unfold encV
  exact LeD.agg (LeL.cons (LeD.refl _) (LeL.cons (LeD.refl _) (LeL.cons (LeD.refl _) (LeL.cons (LeD.refl _) (LeL.cons (LeD.refl _) (LeL.cons (LeD.nil 1) (LeL.cons (LeD.nil 1) LeL.nil)))))))
theorem f99_flat (L : List Int) (i : Nat) (k0 : Int) (hk5 : k0 ≠ 5) : FnOK sys 99 [.ref 0 0, .v (.int .i64 k0)] [(0, numBox L (min i L.length))] (.agg (encV (valV L i k0))) [(0, numBox L (min (valK L i k0) L.length))] := by
  have h143 := f143_ok L i
  have h144 := f144_ok L i
  by_cases k1 : k0 = 1
  · subst k1
    refine FnOK.leRes (d := .agg [.v (.int .i64 1), .s (textV L i), .v (.int .i64 0), .v (.int .i64 0), .v (.int .i64 0), .v (.slice none 0 0), .v (.slice none 0 0)]) ?_ (flatLe 1 (textV L i) 0 0 0)
    refine FnOK.intro Tryz.f99 (by kernel_rfl) rfl rfl [.cell 4 33] rfl 1 rfl (Nat.le_of_ble_eq_true rfl) rfl rfl fun E hN h0 => W.code (N := 45) [] hN ?_
    repeat (first | refine st_end rfl ?_ | ((first | refine st1 fun K k => ?_ | refine st2 fun K k => ?_ | refine st3 rfl fun K k => ?_ | refine st4 fun K k => ?_); simp only [go_sem, beq_self_eq_true]; refine k _ _ _ _ _ _ ?_; clear k K))
    (first | refine st1 fun K k => ?_ | refine st3 rfl fun K k => ?_); simp only [go_sem]
    refine callT h143 2 (by simp only [go_sem]) (by omega) (by simp only [go_sem]) ?_
    simp only [go_sem]
    refine k _ _ _ _ _ _ ?_; clear k K
    repeat (first | refine st_end rfl ?_ | ((first | refine st1 fun K k => ?_ | refine st2 fun K k => ?_ | refine st3 rfl fun K k => ?_ | refine st4 fun K k => ?_); simp only [go_sem]; refine k _ _ _ _ _ _ ?_; clear k K))
    refine Done.mk (.inr rfl) Into.refl ?_ [(0, 0)] 1 ?_ ?_ ?_ ?_
    · rfl
    · rfl
    · simp only [go_sem, newOf]
    · simp only [go_sem, newOf, valK]
    · rfl
  have e1 : (k0 == 1) = false := by simpa using k1
  by_cases k2 : k0 = 2
  · subst k2
    refine FnOK.leRes (d := .agg [.v (.int .i64 2), .s [], .v (.int .i64 (decV L i).1), .v (.int .i64 (decV L i).2), .v (.int .i64 0), .v (.slice none 0 0), .v (.slice none 0 0)]) ?_ (flatLe 2 [] (decV L i).1 (decV L i).2 0)
    refine FnOK.intro Tryz.f99 (by kernel_rfl) rfl rfl [.cell 4 33] rfl 1 rfl (Nat.le_of_ble_eq_true rfl) rfl rfl fun E hN h0 => W.code (N := 45) [] hN ?_
    simp only [decD] at h144
    repeat (first | refine st_end rfl ?_ | ((first | refine st1 fun K k => ?_ | refine st2 fun K k => ?_ | refine st3 rfl fun K k => ?_ | refine st4 fun K k => ?_); simp only [go_sem, beq_self_eq_true]; refine k _ _ _ _ _ _ ?_; clear k K))
    (first | refine st1 fun K k => ?_ | refine st3 rfl fun K k => ?_); simp only [go_sem]
    refine callT h144 2 (by simp only [go_sem]) (by omega) (by simp only [go_sem]) ?_
    simp only [go_sem]
    refine k _ _ _ _ _ _ ?_; clear k K
    repeat (first | refine st_end rfl ?_ | ((first | refine st1 fun K k => ?_ | refine st2 fun K k => ?_ | refine st3 rfl fun K k => ?_ | refine st4 fun K k => ?_); simp only [go_sem]; refine k _ _ _ _ _ _ ?_; clear k K))
    refine Done.mk (.inr rfl) Into.refl ?_ [(0, 0)] 1 ?_ ?_ ?_ ?_
    · rfl
    · rfl
    · simp only [go_sem, newOf]
    · simp only [go_sem, newOf, valK]
    · rfl
  have e2 : (k0 == 2) = false := by simpa using k2
  by_cases k3 : k0 = 3
  · subst k3
    refine FnOK.leRes (d := .agg [.v (.int .i64 3), .s [], .v (.int .i64 0), .v (.int .i64 0), .v (.int .i64 (dateV L i)), .v (.slice none 0 0), .v (.slice none 0 0)]) ?_ (flatLe 3 [] 0 0 (dateV L i))
    refine FnOK.intro Tryz.f99 (by kernel_rfl) rfl rfl [.cell 4 33] rfl 1 rfl (Nat.le_of_ble_eq_true rfl) rfl rfl fun E hN h0 => W.code (N := 45) [] hN ?_
    repeat (first | refine st_end rfl ?_ | ((first | refine st1 fun K k => ?_ | refine st2 fun K k => ?_ | refine st3 rfl fun K k => ?_ | refine st4 fun K k => ?_); simp only [go_sem, beq_self_eq_true]; refine k _ _ _ _ _ _ ?_; clear k K))
    (first | refine st1 fun K k => ?_ | refine st3 rfl fun K k => ?_); simp only [go_sem]
    refine call49 0 L i (by simp only [go_sem]) (by omega) (by omega) ?_
    simp only [go_sem]
    refine k _ _ _ _ _ _ ?_; clear k K
    obtain ⟨a1, a2⟩ := nextV_pos L i (n := 1000) (by omega)
    have w1 : IntKind.wrap .i64 (738000 + nextV L i 1000) = 738000 + nextV L i 1000 := wrapTo (by omega)
    repeat (first | refine st_end rfl ?_ | ((first | refine st1 fun K k => ?_ | refine st2 fun K k => ?_ | refine st3 rfl fun K k => ?_ | refine st4 fun K k => ?_); simp only [go_sem, w1]; refine k _ _ _ _ _ _ ?_; clear k K))
    (first | refine st1 fun K k => ?_ | refine st3 rfl fun K k => ?_); simp only [go_sem]
    refine call49 0 L (i + 1) (by simp only [go_sem]) (by omega) (by omega) ?_
    simp only [go_sem]
    refine k _ _ _ _ _ _ ?_; clear k K
    by_cases h7 : nextV L (i + 1) 8 = 7
    · have h7' : (nextV L (i + 1) 8 == 7) = true := by simpa using h7
      repeat (first | refine st_end rfl ?_ | ((first | refine st1 fun K k => ?_ | refine st2 fun K k => ?_ | refine st3 rfl fun K k => ?_ | refine st4 fun K k => ?_); simp only [go_sem, h7']; refine k _ _ _ _ _ _ ?_; clear k K))
      (first | refine st1 fun K k => ?_ | refine st3 rfl fun K k => ?_); simp only [go_sem]
      refine call49 0 L (i + 2) (by simp only [go_sem]) (by omega) (by omega) ?_
      simp only [go_sem]
      refine k _ _ _ _ _ _ ?_; clear k K
      repeat (first | refine st_end rfl ?_ | ((first | refine st1 fun K k => ?_ | refine st2 fun K k => ?_ | refine st3 rfl fun K k => ?_ | refine st4 fun K k => ?_); simp only [go_sem]; refine k _ _ _ _ _ _ ?_; clear k K))
      refine Done.mk (.inr rfl) Into.refl ?_ [(0, 0)] 1 ?_ ?_ ?_ ?_
      · rfl
      · rfl
      · simp only [go_sem, newOf, dateV, h7]
      · simp only [go_sem, newOf, valK, h7]
      · rfl
    · have h7' : (nextV L (i + 1) 8 == 7) = false := by simpa using h7
      repeat (first | refine st_end rfl ?_ | ((first | refine st1 fun K k => ?_ | refine st2 fun K k => ?_ | refine st3 rfl fun K k => ?_ | refine st4 fun K k => ?_); simp only [go_sem, h7']; refine k _ _ _ _ _ _ ?_; clear k K))
      refine Done.mk (.inr rfl) Into.refl ?_ [(0, 0)] 1 ?_ ?_ ?_ ?_
      · rfl
      · rfl
      · simp only [go_sem, newOf, dateV, h7]
      · simp only [go_sem, newOf, valK, h7]
      · rfl
  have e3 : (k0 == 3) = false := by simpa using k3
  by_cases k4 : k0 = 4
  · subst k4
    refine FnOK.leRes (d := .agg [.v (.int .i64 4), .s [], .v (.int .i64 0), .v (.int .i64 0), .v (.int .i64 (nextV L i 2)), .v (.slice none 0 0), .v (.slice none 0 0)]) ?_ (flatLe 4 [] 0 0 (nextV L i 2))
    refine FnOK.intro Tryz.f99 (by kernel_rfl) rfl rfl [.cell 4 33] rfl 1 rfl (Nat.le_of_ble_eq_true rfl) rfl rfl fun E hN h0 => W.code (N := 45) [] hN ?_
    repeat (first | refine st_end rfl ?_ | ((first | refine st1 fun K k => ?_ | refine st2 fun K k => ?_ | refine st3 rfl fun K k => ?_ | refine st4 fun K k => ?_); simp only [go_sem, beq_self_eq_true]; refine k _ _ _ _ _ _ ?_; clear k K))
    (first | refine st1 fun K k => ?_ | refine st3 rfl fun K k => ?_); simp only [go_sem]
    refine call49 0 L i (by simp only [go_sem]) (by omega) (by omega) ?_
    simp only [go_sem]
    refine k _ _ _ _ _ _ ?_; clear k K
    repeat (first | refine st_end rfl ?_ | ((first | refine st1 fun K k => ?_ | refine st2 fun K k => ?_ | refine st3 rfl fun K k => ?_ | refine st4 fun K k => ?_); simp only [go_sem]; refine k _ _ _ _ _ _ ?_; clear k K))
    refine Done.mk (.inr rfl) Into.refl ?_ [(0, 0)] 1 ?_ ?_ ?_ ?_
    · rfl
    · rfl
    · simp only [go_sem, newOf]
    · simp only [go_sem, newOf, valK]
    · rfl
  have e4 : (k0 == 4) = false := by simpa using k4
  have e5 : (k0 == 5) = false := by simpa using hk5
  have hv : valV L i k0 = .mk 0 [] 0 0 (nextV L i 100) [] [] := by simp [valV, k1, k2, k3, k4]
  have hk : valK L i k0 = i + 1 := by simp [valK, k1, k2, k3]
  rw [hv, hk]
  refine FnOK.leRes (d := .agg [.v (.int .i64 0), .s [], .v (.int .i64 0), .v (.int .i64 0), .v (.int .i64 (nextV L i 100)), .v (.slice none 0 0), .v (.slice none 0 0)]) ?_ (flatLe 0 [] 0 0 (nextV L i 100))
  refine FnOK.intro Tryz.f99 (by kernel_rfl) rfl rfl [.cell 4 33] rfl 1 rfl (Nat.le_of_ble_eq_true rfl) rfl rfl fun E hN h0 => W.code (N := 45) [] hN ?_
  repeat (first | refine st_end rfl ?_ | ((first | refine st1 fun K k => ?_ | refine st2 fun K k => ?_ | refine st3 rfl fun K k => ?_ | refine st4 fun K k => ?_); simp only [go_sem, e1, e2, e3, e4, e5]; refine k _ _ _ _ _ _ ?_; clear k K))
  (first | refine st1 fun K k => ?_ | refine st3 rfl fun K k => ?_); simp only [go_sem]
  refine call49 0 L i (by simp only [go_sem]) (by omega) (by omega) ?_
  simp only [go_sem]
  refine k _ _ _ _ _ _ ?_; clear k K
  repeat (first | refine st_end rfl ?_ | ((first | refine st1 fun K k => ?_ | refine st2 fun K k => ?_ | refine st3 rfl fun K k => ?_ | refine st4 fun K k => ?_); simp only [go_sem]; refine k _ _ _ _ _ _ ?_; clear k K))
  refine Done.mk (.inr rfl) Into.refl ?_ [(0, 0)] 1 ?_ ?_ ?_ ?_
  · rfl
  · rfl
  · simp only [go_sem, newOf]
  · simp only [go_sem, newOf]
  · rfl
end Go.Proofs.YtjgooecohepkoaaGreatDoor
namespace Go.Proofs.YtjgooecohepkoaaGreatDoor
open Go Go.Abs
set_option linter.unusedSimpArgs false
set_option maxHeartbeats 2000000
/-! ### Tables that numbers determine -/
def zeroV : Val := .mk 0 [] 0 0 0 [] []
def cellW (L : List Int) (p : Nat) (k : Int) : Val := if nextV L p 9 = 8 then zeroV else valV L (p + 1) k
def cellK (L : List Int) (p : Nat) (k : Int) : Nat := if nextV L p 9 = 8 then p + 1 else valK L (p + 1) k
def tMany (L : List Int) (i : Nat) : Nat := (nextV L i 4).toNat
def tKind (L : List Int) (i j : Nat) : Int := 1 + nextV L (i + 1 + j) 4
def tRows (L : List Int) (i : Nat) : Nat := (nextV L (i + 1 + tMany L i) 5).toNat
def rowK (L : List Int) (i p : Nat) : Nat → Nat
  | 0 => p
  | j + 1 => cellK L (rowK L i p j) (tKind L i j)
def rowW (L : List Int) (i p m : Nat) : List Val := (List.range m).map fun j => cellW L (rowK L i p j) (tKind L i j)
def tabK (L : List Int) (i : Nat) : Nat → Nat
  | 0 => i + 2 + tMany L i
  | r + 1 => rowK L i (tabK L i r) (tMany L i)
def abc : List (List UInt8) := [[97], [98], [99]]
def tabV (L : List Int) (i : Nat) : Val := .mk 5 [] 0 0 0 (abc.take (tMany L i)) ((List.range (tRows L i)).map fun r => rowW L i (tabK L i r) (tMany L i))
theorem abc_at {j : Nat} (h : j < 3) : ([[.s [97]], [.s [98]], [.s [99]]] : List (List D))[j]? = some [.s (abc.getD j [])] := by
  rcases j with _ | _ | _ | j <;> first | rfl | omega
theorem subL_encV' (θ : Nat → Option Nat) (v : Val) : subL θ (encV v) = encV v := by
  obtain ⟨kd, s, dn, ds, num, cols, rows⟩ := v
  simp only [encV, subL, subD, strsD]
theorem LeO.snoc {t : TypeId} {sz : Nat} {es : List (List D)} {a b : List D} (h : LeL a b) (hl : ∀ e ∈ es, e.length = sz) (hb : b.length = sz) : LeO (.row t sz (es ++ [a])) (.row t sz (es ++ [b])) := by
  refine LeO.row (by simp) ?_ ?_
  · intro e he
    rcases List.mem_append.1 he with h1 | h1
    · exact hl e h1
    · simp at h1; rw [h1]; exact hb
  · intro i e e' h1 h2
    rcases Nat.lt_or_ge i es.length with hi | hi
    · rw [List.getElem?_append_left hi] at h1 h2
      rw [h1] at h2; cases h2
      exact fun _ _ _ h => h
    · rw [List.getElem?_append_right hi] at h1 h2
      have hz : i - es.length = 0 := by
        have := (List.getElem?_eq_some_iff.1 h1).1
        simpa using this
      rw [hz] at h1 h2
      simp at h1 h2
      subst h1; subst h2
      exact h
theorem zeroLe : LeL [.v (.int .i64 0), .s [], .v (.int .i64 0), .v (.int .i64 0), .v (.int .i64 0), .v (.slice none 0 0), .v (.slice none 0 0)] (encV zeroV) := by
  unfold encV zeroV
  exact LeL.cons (LeD.refl _) (LeL.cons (LeD.refl _) (LeL.cons (LeD.refl _) (LeL.cons (LeD.refl _) (LeL.cons (LeD.refl _) (LeL.cons (LeD.nil 1) (LeL.cons (LeD.nil 1) LeL.nil))))))
theorem f145_ok (L : List Int) (i : Nat) : FnOK sys 145 [.ref 0 0] [(0, numBox L (min i L.length))] (.agg (encV (tabV L i))) [(0, numBox L (min (tabK L i (tRows L i)) L.length))] := by
  refine FnOK.intro Tryz.f145 (by kernel_rfl) rfl rfl [.cell 2 33] rfl 1 rfl (Nat.le_of_ble_eq_true rfl) rfl rfl fun E hN h0 => W.code (N := 69) [21, 25, 32, 51, 60, 65] hN ?_
  repeat (first | refine st_end rfl ?_ | ((first | refine st1 fun K k => ?_ | refine st2 fun K k => ?_ | refine st3 rfl fun K k => ?_ | refine st4 fun K k => ?_); simp only [go_sem]; refine k _ _ _ _ _ _ ?_; clear k K))
  (first | refine st1 fun K k => ?_ | refine st3 rfl fun K k => ?_); simp only [go_sem]
  refine call49 0 L i (by simp only [go_sem]) (by omega) (by omega) ?_
  simp only [go_sem]
  refine k _ _ _ _ _ _ ?_; clear k K
  obtain ⟨a1, a2⟩ := nextV_pos L i (n := 4) (by omega)
  have hm : nextV L i 4 = (tMany L i : Int) := by unfold tMany; omega
  have hm3 : tMany L i ≤ 3 := by unfold tMany; omega
  rw [hm]
  repeat (first | refine st_end rfl ?_ | ((first | refine st1 fun K k => ?_ | refine st2 fun K k => ?_ | refine st3 rfl fun K k => ?_ | refine st4 fun K k => ?_); simp only [go_sem]; refine k _ _ _ _ _ _ ?_; clear k K))
  refine W.loopP (fun j : Nat => ⟨[(0, .ref 0 0), (2, .ref 1 0), (3, .ref 2 0), (4, .v (.int .i64 (tMany L i))), (5, .own 4 j), (6, .v (.int .i64 j))],
      [(0, numBox L (min (i + 1 + j) L.length)), (1, .box [.v (.int .i64 0), .s [], .v (.int .i64 0), .v (.int .i64 0), .v (.int .i64 0), .v (.slice none 0 0), .v (.slice none 0 0)]), (2, .box [.v (.int .i64 5), .s [], .v (.int .i64 0), .v (.int .i64 0), .v (.int .i64 0), .own 3 j, .v (.slice none 0 0)]),
        (3, .row 9 1 ((abc.take j).map fun s => [.s s])), (4, .row 3 1 ((List.range j).map fun j => [.v (.int .i64 (tKind L i j))]))], 5, []⟩)
    (fun j => j ≤ tMany L i) (fun j => tMany L i - j) 0 (Nat.zero_le _) ((Into.nilCell 2 5 9 1 rfl rfl).trans ((Into.nilRow 5 3 1 rfl).trans (Into.le ?_ ?_ (Nat.le_refl _) rfl))) fun j hj => W.code (N := 69) [21, 25, 32, 51, 60, 65] hN ?_
  · simp only [go_sem]
    exact LeD.refl _
  · simp only [go_sem]
    exact LeO.refl _
  repeat (first | refine st_end rfl ?_ | ((first | refine st1 fun K k => ?_ | refine st2 fun K k => ?_ | refine st3 rfl fun K k => ?_ | refine st4 fun K k => ?_); simp only [go_sem]; refine k _ _ _ _ _ _ ?_; clear k K))
  refine st_cond fun A B a b => ?_; simp only [go_sem]; refine ⟨fun g => a ?_, fun g => b ?_⟩ <;> clear a b A B
  · have hj3 : j < 3 := by omega
    have e1 : (List.take j abc).length = j := by simp [abc]; omega
    have e2 : j + 1 ≤ maxLen := by unfold maxLen; omega
    have e3 : (j + 1) * 16 ≤ 140737488355328 := by omega
    have e4 : (j + 1) * 8 ≤ 140737488355328 := by omega
    have e5 : abc.take (j + 1) = abc.take j ++ [abc.getD j []] := by
      rcases j with _ | _ | _ | j <;> first | rfl | omega
    have hab := abc_at hj3
    repeat (first | refine st_end rfl ?_ | ((first | refine st1 fun K k => ?_ | refine st2 fun K k => ?_ | refine st3 rfl fun K k => ?_ | refine st4 fun K k => ?_); simp only [go_sem, hab, e1, e2, e3]; refine k _ _ _ _ _ _ ?_; clear k K))
    (first | refine st1 fun K k => ?_ | refine st3 rfl fun K k => ?_); simp only [go_sem]
    refine call49 0 L (i + 1 + j) (by simp only [go_sem]) (by omega) (by omega) ?_
    simp only [go_sem]
    refine k _ _ _ _ _ _ ?_; clear k K
    obtain ⟨c1, c2⟩ := nextV_pos L (i + 1 + j) (n := 4) (by omega)
    have w1 : IntKind.wrap .i64 (1 + nextV L (i + 1 + j) 4) = tKind L i j := wrapTo ⟨rfl, by unfold tKind; omega, by unfold tKind; omega⟩
    have w5 : IntKind.wrap .i64 ((j : Int) + 1) = ((j + 1 : Nat) : Int) := wrapTo (by omega)
    repeat (first | refine st_end rfl ?_ | ((first | refine st1 fun K k => ?_ | refine st2 fun K k => ?_ | refine st3 rfl fun K k => ?_ | refine st4 fun K k => ?_); simp only [go_sem, w1, w5, e2, e4, List.length_range]; refine k _ _ _ _ _ _ ?_; clear k K))
    refine ⟨j + 1, by omega, by omega, (Into.ren h0 [(0, 0), (1, 1), (2, 2), (3, 5), (4, 6)] 5 rfl).trans (Into.le ?_ ?_ (Nat.le_refl _) rfl)⟩
    · simp only [go_sem, newOf]
    · simp only [go_sem, newOf, e5, Nat.add_assoc, List.range_succ]
  obtain rfl : j = tMany L i := by omega
  refine iq Into.refl ?_
  repeat (first | refine st_end rfl ?_ | ((first | refine st1 fun K k => ?_ | refine st2 fun K k => ?_ | refine st3 rfl fun K k => ?_ | refine st4 fun K k => ?_); simp only [go_sem]; refine k _ _ _ _ _ _ ?_; clear k K))
  (first | refine st1 fun K k => ?_ | refine st3 rfl fun K k => ?_); simp only [go_sem]
  refine call49 0 L (i + 1 + tMany L i) (by simp only [go_sem]) (by omega) (by omega) ?_
  simp only [go_sem]
  refine k _ _ _ _ _ _ ?_; clear k K
  obtain ⟨d1, d2⟩ := nextV_pos L (i + 1 + tMany L i) (n := 5) (by omega)
  have d3 : nextV L (i + 1 + tMany L i) 5 = (tRows L i : Int) := by unfold tRows; omega
  have d4 : tRows L i ≤ 5 := by unfold tRows; omega
  rw [d3]
  repeat (first | refine st_end rfl ?_ | ((first | refine st1 fun K k => ?_ | refine st2 fun K k => ?_ | refine st3 rfl fun K k => ?_ | refine st4 fun K k => ?_); simp only [go_sem]; refine k _ _ _ _ _ _ ?_; clear k K))
  have hcl : (List.take (tMany L i) abc).length = tMany L i := by simp [abc]; omega
  refine W.loopP (fun r : Nat => ⟨[(0, .ref 0 0), (2, .ref 1 0), (3, .ref 2 0), (4, .v (.int .i64 (tMany L i))), (5, .sl ((List.range (tMany L i)).map fun j => [.v (.int .i64 (tKind L i j))]) 1), (7, .v (.int .i64 (tRows L i))), (8, .v (.int .i64 r))],
      [(0, numBox L (min (tabK L i r) L.length)), (1, .box [.v (.int .i64 0), .s [], .v (.int .i64 0), .v (.int .i64 0), .v (.int .i64 0), .v (.slice none 0 0), .v (.slice none 0 0)]), (2, .box [.v (.int .i64 5), .s [], .v (.int .i64 0), .v (.int .i64 0), .v (.int .i64 0), strsD (abc.take (tMany L i)), .own 5 r]),
        (5, .row 45 1 ((List.range r).map fun r => [rowV (rowW L i (tabK L i r) (tMany L i))]))], 6, []⟩)
    (fun r => r ≤ tRows L i) (fun r => tRows L i - r) 0 (Nat.zero_le _) ((Into.nilCell 2 6 45 1 rfl rfl).trans ((Into.frz [3, 4] ?_).trans (Into.le ?_ ?_ (Nat.le_refl _) rfl))) fun r hr => W.code (N := 69) [21, 25, 32, 51, 60, 65] hN ?_
  · simp only [go_sem]
    refine ⟨fun e he => ?_, fun e he => ?_⟩
    · obtain ⟨q, _, rfl⟩ := List.mem_map.1 he; rfl
    · obtain ⟨q, _, rfl⟩ := List.mem_map.1 he; rfl
  · simp only [go_sem, List.length_range]
    exact LeD.refl _
  · have hp : i + 1 + tMany L i + 1 = i + 2 + tMany L i := by omega
    simp only [go_sem, hcl, tabK, hp, List.range_zero]
  repeat (first | refine st_end rfl ?_ | ((first | refine st1 fun K k => ?_ | refine st2 fun K k => ?_ | refine st3 rfl fun K k => ?_ | refine st4 fun K k => ?_); simp only [go_sem]; refine k _ _ _ _ _ _ ?_; clear k K))
  refine st_cond fun A B a b => ?_; simp only [go_sem]; refine ⟨fun g => a ?_, fun g => b ?_⟩ <;> clear a b A B
  · repeat (first | refine st_end rfl ?_ | ((first | refine st1 fun K k => ?_ | refine st2 fun K k => ?_ | refine st3 rfl fun K k => ?_ | refine st4 fun K k => ?_); simp only [go_sem]; refine k _ _ _ _ _ _ ?_; clear k K))
    refine W.loopP (fun j : Nat => ⟨[(0, .ref 0 0), (2, .ref 1 0), (3, .ref 2 0), (4, .v (.int .i64 (tMany L i))), (5, .sl ((List.range (tMany L i)).map fun j => [.v (.int .i64 (tKind L i j))]) 1), (7, .v (.int .i64 (tRows L i))), (8, .v (.int .i64 r)), (9, .own 6 j), (10, .v (.int .i64 j))],
        [(0, numBox L (min (rowK L i (tabK L i r) j) L.length)), (1, .box [.v (.int .i64 0), .s [], .v (.int .i64 0), .v (.int .i64 0), .v (.int .i64 0), .v (.slice none 0 0), .v (.slice none 0 0)]), (2, .box [.v (.int .i64 5), .s [], .v (.int .i64 0), .v (.int .i64 0), .v (.int .i64 0), strsD (abc.take (tMany L i)), .own 5 r]),
          (5, .row 45 1 ((List.range r).map fun r => [rowV (rowW L i (tabK L i r) (tMany L i))])), (6, .row 33 7 ((List.range j).map fun j => encV (cellW L (rowK L i (tabK L i r) j) (tKind L i j))))], 7, []⟩)
      (fun j => j ≤ tMany L i) (fun j => tMany L i - j) 0 (Nat.zero_le _) ((Into.nilRow 9 33 7 rfl).trans (Into.le ?_ ?_ (Nat.le_refl _) rfl)) fun j hj => W.code (N := 69) [21, 25, 32, 51, 60, 65] hN ?_
    · simp only [go_sem]
      exact LeD.refl _
    · simp only [go_sem, rowK, List.range_zero]
    repeat (first | refine st_end rfl ?_ | ((first | refine st1 fun K k => ?_ | refine st2 fun K k => ?_ | refine st3 rfl fun K k => ?_ | refine st4 fun K k => ?_); simp only [go_sem]; refine k _ _ _ _ _ _ ?_; clear k K))
    refine st_cond fun A B a b => ?_; simp only [go_sem]; refine ⟨fun g => a ?_, fun g => b ?_⟩ <;> clear a b A B
    · obtain ⟨p, hp⟩ : ∃ p, rowK L i (tabK L i r) j = p := ⟨_, rfl⟩
      have b1 : j + 1 ≤ maxLen := by unfold maxLen; omega
      have b2 : (j + 1) * 96 ≤ 140737488355328 := by omega
      have w5 : IntKind.wrap .i64 ((j : Int) + 1) = ((j + 1 : Nat) : Int) := wrapTo (by omega)
      have hkr : (List.range (tMany L i))[j]? = some j := List.getElem?_range (by omega)
      rw [hp]
      repeat (first | refine st_end rfl ?_ | ((first | refine st1 fun K k => ?_ | refine st2 fun K k => ?_ | refine st3 rfl fun K k => ?_ | refine st4 fun K k => ?_); simp only [go_sem]; refine k _ _ _ _ _ _ ?_; clear k K))
      (first | refine st1 fun K k => ?_ | refine st3 rfl fun K k => ?_); simp only [go_sem]
      refine call49 0 L p (by simp only [go_sem]) (by omega) (by omega) ?_
      simp only [go_sem]
      refine k _ _ _ _ _ _ ?_; clear k K
      by_cases h8 : nextV L p 9 = 8
      · have h8' : (nextV L p 9 == 8) = true := by simpa using h8
        repeat (first | refine st_end rfl ?_ | ((first | refine st1 fun K k => ?_ | refine st2 fun K k => ?_ | refine st3 rfl fun K k => ?_ | refine st4 fun K k => ?_); simp only [go_sem, h8', b1, b2, w5, List.length_range]; refine k _ _ _ _ _ _ ?_; clear k K))
        refine ⟨j + 1, by omega, by omega, (Into.ren h0 [(0, 0), (1, 1), (2, 2), (5, 5), (6, 7)] 7 rfl).trans (Into.le ?_ ?_ (Nat.le_refl _) rfl)⟩
        · simp only [go_sem, newOf]
        · have hk8 : rowK L i (tabK L i r) (j + 1) = p + 1 := by simp [rowK, hp, cellK, h8]
          have hc8 : cellW L p (tKind L i j) = zeroV := by simp [cellW, h8]
          simp only [go_sem, newOf, hk8, List.range_succ, hp, hc8, subL_encV']
          exact LeO.snoc zeroLe (fun e he => by obtain ⟨q, _, rfl⟩ := List.mem_map.1 he; exact encV_len _) (encV_len _)
      · have h8' : (nextV L p 9 == 8) = false := by simpa using h8
        obtain ⟨c1, c2⟩ := nextV_pos L (i + 1 + j) (n := 4) (by omega)
        have h99 := f99_flat L (p + 1) (tKind L i j) (by unfold tKind; omega)
        obtain ⟨v, hv⟩ : ∃ v, valV L (p + 1) (tKind L i j) = v := ⟨_, rfl⟩
        rw [hv] at h99
        obtain ⟨kd', s', dn', ds', num', c', r'⟩ := v
        simp only [encV] at h99
        repeat (first | refine st_end rfl ?_ | ((first | refine st1 fun K k => ?_ | refine st2 fun K k => ?_ | refine st3 rfl fun K k => ?_ | refine st4 fun K k => ?_); simp only [go_sem, h8', hkr]; refine k _ _ _ _ _ _ ?_; clear k K))
        (first | refine st1 fun K k => ?_ | refine st3 rfl fun K k => ?_); simp only [go_sem, hkr]
        refine callT h99 8 (by simp only [go_sem]) (by omega) (by simp only [go_sem]) ?_
        simp only [go_sem]
        refine k _ _ _ _ _ _ ?_; clear k K
        repeat (first | refine st_end rfl ?_ | ((first | refine st1 fun K k => ?_ | refine st2 fun K k => ?_ | refine st3 rfl fun K k => ?_ | refine st4 fun K k => ?_); simp only [go_sem, b1, b2, w5, List.length_range]; refine k _ _ _ _ _ _ ?_; clear k K))
        refine ⟨j + 1, by omega, by omega, (Into.ren h0 [(0, 0), (1, 1), (2, 2), (5, 5), (6, 8)] 7 rfl).trans (Into.le ?_ ?_ (Nat.le_refl _) rfl)⟩
        · simp only [go_sem, newOf]
        · have hk8 : rowK L i (tabK L i r) (j + 1) = valK L (p + 1) (tKind L i j) := by simp [rowK, hp, cellK, h8]
          have hc8 : cellW L p (tKind L i j) = .mk kd' s' dn' ds' num' c' r' := by simp [cellW, h8, hv]
          simp only [go_sem, newOf, hk8, List.range_succ, hp, hc8, subL_encV', encV]
    · obtain rfl : j = tMany L i := by omega
      have b1 : r + 1 ≤ maxLen := by unfold maxLen; omega
      have b2 : (r + 1) * 24 ≤ 140737488355328 := by omega
      have w5 : IntKind.wrap .i64 ((r : Int) + 1) = ((r + 1 : Nat) : Int) := wrapTo (by omega)
      refine iq (Into.frz [6] ?_) ?_
      · simp only [go_sem]
        intro e he
        obtain ⟨q, _, rfl⟩ := List.mem_map.1 he
        generalize cellW L _ _ = v
        obtain ⟨kd', s', dn', ds', num', c', r'⟩ := v
        rfl
      simp only [go_sem, List.length_range]
      have hrow : ∀ r, rowV (rowW L i (tabK L i r) (tMany L i)) = .sl ((List.range (tMany L i)).map fun j => encV (cellW L (rowK L i (tabK L i r) j) (tKind L i j))) 7 := by
        intro r; simp [rowV, rowW, Function.comp_def]
      repeat (first | refine st_end rfl ?_ | ((first | refine st1 fun K k => ?_ | refine st2 fun K k => ?_ | refine st3 rfl fun K k => ?_ | refine st4 fun K k => ?_); simp only [go_sem, b1, b2, w5, List.length_range]; refine k _ _ _ _ _ _ ?_; clear k K))
      refine ⟨r + 1, by omega, by omega, (Into.ren h0 [(0, 0), (1, 1), (2, 2), (5, 7)] 6 rfl).trans (Into.le ?_ ?_ (Nat.le_refl _) rfl)⟩
      · simp only [go_sem, newOf]
      · have hrow2 : List.map encV (rowW L i (tabK L i r) (tMany L i)) = (List.range (tMany L i)).map fun j => encV (cellW L (rowK L i (tabK L i r) j) (tKind L i j)) := by simp [rowW, Function.comp_def]
        simp only [go_sem, newOf, List.range_succ, tabK, hrow2]
  · obtain rfl : r = tRows L i := by omega
    refine iq (Into.frz [5] ?_) ?_
    · simp only [go_sem]
      intro e he
      obtain ⟨q, _, rfl⟩ := List.mem_map.1 he; rfl
    simp only [go_sem, List.length_range]
    repeat (first | refine st_end rfl ?_ | ((first | refine st1 fun K k => ?_ | refine st2 fun K k => ?_ | refine st3 rfl fun K k => ?_ | refine st4 fun K k => ?_); simp only [go_sem]; refine k _ _ _ _ _ _ ?_; clear k K))
    refine Done.mk (.inr rfl) Into.refl ?_ [(0, 0)] 1 ?_ ?_ ?_ ?_
    · rfl
    · rfl
    · have hrl : encRs ((List.range (tRows L i)).map fun r => rowW L i (tabK L i r) (tMany L i)) = (List.range (tRows L i)).map fun r => [rowV (rowW L i (tabK L i r) (tMany L i))] := by rw [encRs_map, List.map_map, List.map_map]; rfl
      simp only [go_sem, newOf, tabV, encV, hrl]
    · simp only [go_sem, newOf]
    · rfl
/-- A value of any kind. -/
def madeV (L : List Int) (i : Nat) (k : Int) : Val := if k = 5 then tabV L i else valV L i k
def madeK (L : List Int) (i : Nat) (k : Int) : Nat := if k = 5 then tabK L i (tRows L i) else valK L i k
theorem f99_ok (L : List Int) (i : Nat) (k0 : Int) : FnOK sys 99 [.ref 0 0, .v (.int .i64 k0)] [(0, numBox L (min i L.length))] (.agg (encV (madeV L i k0))) [(0, numBox L (min (madeK L i k0) L.length))] := by
  by_cases k5 : k0 = 5
  case neg =>
    have h := f99_flat L i k0 k5
    simpa only [madeV, madeK, if_neg k5] using h
  subst k5
  simp only [madeV, madeK, if_true]
  have h145 := f145_ok L i
  obtain ⟨v, hv⟩ : ∃ v, tabV L i = v := ⟨_, rfl⟩
  rw [hv] at h145 ⊢
  obtain ⟨kd', s', dn', ds', num', c', r'⟩ := v
  simp only [encV] at h145
  refine FnOK.intro Tryz.f99 (by kernel_rfl) rfl rfl [.cell 4 33] rfl 1 rfl (Nat.le_of_ble_eq_true rfl) rfl rfl fun E hN h0 => W.code (N := 45) [] hN ?_
  repeat (first | refine st_end rfl ?_ | ((first | refine st1 fun K k => ?_ | refine st2 fun K k => ?_ | refine st3 rfl fun K k => ?_ | refine st4 fun K k => ?_); simp only [go_sem, beq_self_eq_true]; refine k _ _ _ _ _ _ ?_; clear k K))
  (first | refine st1 fun K k => ?_ | refine st3 rfl fun K k => ?_); simp only [go_sem]
  refine callT h145 2 (by simp only [go_sem]) (by omega) (by simp only [go_sem]) ?_
  simp only [go_sem]
  refine k _ _ _ _ _ _ ?_; clear k K
  repeat (first | refine st_end rfl ?_ | ((first | refine st1 fun K k => ?_ | refine st2 fun K k => ?_ | refine st3 rfl fun K k => ?_ | refine st4 fun K k => ?_); simp only [go_sem]; refine k _ _ _ _ _ _ ?_; clear k K))
  refine Done.mk (.inr rfl) Into.refl ?_ [(0, 0)] 1 ?_ ?_ ?_ ?_
  · rfl
  · rfl
  · simp only [go_sem, newOf, encV]
  · simp only [go_sem, newOf]
  · rfl
theorem f99_at (L : List Int) (i : Nat) (k0 : Int) : FnOK sys 99 [.ref 1 0, .v (.int .i64 k0)] [(1, numBox L (min i L.length))] (.agg (encV (madeV L i k0))) [(1, numBox L (min (madeK L i k0) L.length))] := by
  have h := FnOK.ren (args' := [.ref 1 0, .v (.int .i64 k0)]) [(1, 0)] (f99_ok L i k0) rfl (by simp [subL, subD, preOf, oldOf, idP, Abs.look]) (by simp [mapS, subO, subL, subD, newOf, numBox, ints]) (by simp [newOf])
  have e1 : ∀ j, subS [(1, 0)] [(0, numBox L j)] [(1, 0)] = [(1, numBox L j)] := fun j => by simp [subS, Abs.look, subO, subL, subD, numBox, ints]
  have e2 : subD (newOf [(1, 0)]) (.agg (encV (madeV L i k0))) = .agg (encV (madeV L i k0)) := by simp only [subD, subL_encV']
  rw [e1, e1, e2] at h
  exact h
/-- What numbers make. -/
def madeOf (L : List Int) : Val := madeV L 1 (nextV L 0 6)
theorem f51_ok (L : List Int) : FnOK sys 51 [ints L] [] (.agg (encV (madeOf L))) [] := by
  refine FnOK.intro Tryz.f51 (by kernel_rfl) rfl rfl [.cell 2 33] rfl 0 rfl (Nat.le_of_ble_eq_true rfl) rfl rfl fun E hN h0 => W.code (N := 11) [] hN ?_
  have h99 := f99_at L 1 (nextV L 0 6)
  obtain ⟨v, hv⟩ : ∃ v, madeV L 1 (nextV L 0 6) = v := ⟨_, rfl⟩
  have hm : madeOf L = v := hv
  rw [hv] at h99
  rw [hm]
  obtain ⟨kd', s', dn', ds', num', c', r'⟩ := v
  simp only [encV] at h99
  have hmin : min 0 L.length = 0 := by omega
  repeat (first | refine st_end rfl ?_ | ((first | refine st1 fun K k => ?_ | refine st2 fun K k => ?_ | refine st3 rfl fun K k => ?_ | refine st4 fun K k => ?_); simp only [go_sem]; refine k _ _ _ _ _ _ ?_; clear k K))
  (first | refine st1 fun K k => ?_ | refine st3 rfl fun K k => ?_); simp only [go_sem]
  refine call49 1 L 0 (by simp only [go_sem, hmin]; rfl) (by omega) (by omega) ?_
  simp only [go_sem]
  refine k _ _ _ _ _ _ ?_; clear k K
  repeat (first | refine st_end rfl ?_ | ((first | refine st1 fun K k => ?_ | refine st2 fun K k => ?_ | refine st3 rfl fun K k => ?_ | refine st4 fun K k => ?_); simp only [go_sem]; refine k _ _ _ _ _ _ ?_; clear k K))
  (first | refine st1 fun K k => ?_ | refine st3 rfl fun K k => ?_); simp only [go_sem]
  refine callT h99 2 (by simp only [go_sem]) (by omega) (by simp only [go_sem]) ?_
  simp only [go_sem]
  refine k _ _ _ _ _ _ ?_; clear k K
  repeat (first | refine st_end rfl ?_ | ((first | refine st1 fun K k => ?_ | refine st2 fun K k => ?_ | refine st3 rfl fun K k => ?_ | refine st4 fun K k => ?_); simp only [go_sem]; refine k _ _ _ _ _ _ ?_; clear k K))
  refine Done.mk (.inr rfl) Into.refl ?_ [] 0 ?_ ?_ ?_ ?_
  · rfl
  · rfl
  · simp only [go_sem, newOf, encV]
  · trivial
  · rfl
end Go.Proofs.YtjgooecohepkoaaGreatDoor
namespace Go.Proofs.YtjgooecohepkoaaGreatDoor
open Go Go.Abs
set_option linter.unusedSimpArgs false
set_option maxHeartbeats 2000000
/-! ### Copies, by the reference -/
theorem allOne_enc (v : Val) : (encV v).all oneD = true := by
  obtain ⟨kd, s, dn, ds, num, cols, rows⟩ := v
  rfl
theorem freeL_enc (v : Val) : freeL (encV v) = true := by
  obtain ⟨kd, s, dn, ds, num, cols, rows⟩ := v
  rfl
theorem f125_ok (xs : List Val) (hx : ∀ x ∈ xs, FnOK sys 82 [.agg (encV x)] [] (.agg (encV x)) []) (hl : xs.length ≤ 1000000) : FnOK sys 125 [rowV xs] [] (.own 0 xs.length) [(0, .row 33 7 (xs.map encV))] := by
  refine FnOK.intro Tryz.f125 (by kernel_rfl) rfl rfl [.tmp 2] rfl 0 rfl (Nat.le_of_ble_eq_true rfl) rfl rfl fun E hN h0 => W.code (N := 20) [17] hN ?_
  repeat (first | refine st_end rfl ?_ | ((first | refine st1 fun K k => ?_ | refine st2 fun K k => ?_ | refine st3 rfl fun K k => ?_ | refine st4 fun K k => ?_); simp only [go_sem]; refine k _ _ _ _ _ _ ?_; clear k K))
  refine W.loopP (fun i : Nat => ⟨[(0, rowV xs), (3, .own 0 i), (4, .v (.int .i64 i))], [(0, .row 33 7 ((xs.take i).map encV))], 1, []⟩)
    (fun i => i ≤ xs.length) (fun i => xs.length - i) 0 (Nat.zero_le _) ((Into.nilRow 3 33 7 rfl).trans (Into.le ?_ ?_ (Nat.le_refl _) rfl)) fun i hi => W.code (N := 20) [17] hN ?_
  · simp only [go_sem]
    exact LeD.refl _
  · simp only [go_sem]
  repeat (first | refine st_end rfl ?_ | ((first | refine st1 fun K k => ?_ | refine st2 fun K k => ?_ | refine st3 rfl fun K k => ?_ | refine st4 fun K k => ?_); simp only [go_sem]; refine k _ _ _ _ _ _ ?_; clear k K))
  refine st_cond fun A B a b => ?_; simp only [go_sem]; refine ⟨fun g => a ?_, fun g => b ?_⟩ <;> clear a b A B
  · obtain ⟨v, hv⟩ := getS (l := xs) (i := i) (by omega)
    have hc := hx v (List.mem_of_getElem? hv)
    have e5 : xs.take (i + 1) = xs.take i ++ [v] := by rw [List.take_add_one, hv]; rfl
    have w5 : IntKind.wrap .i64 ((i : Int) + 1) = ((i + 1 : Nat) : Int) := wrapTo (by omega)
    have b1 : i + 1 ≤ maxLen := by unfold maxLen; omega
    have b2 : (i + 1) * 96 ≤ 140737488355328 := by omega
    have b3 : min i xs.length = i := by omega
    obtain ⟨kd', s', dn', ds', num', c', r'⟩ := v
    simp only [encV] at hc
    repeat (first | refine st_end rfl ?_ | ((first | refine st1 fun K k => ?_ | refine st2 fun K k => ?_ | refine st3 rfl fun K k => ?_ | refine st4 fun K k => ?_); simp only [go_sem, hv, encV]; refine k _ _ _ _ _ _ ?_; clear k K))
    (first | refine st1 fun K k => ?_ | refine st3 rfl fun K k => ?_); simp only [go_sem]; refine callP (hc) ?_; refine k _ _ _ _ _ _ ?_; clear k K
    repeat (first | refine st_end rfl ?_ | ((first | refine st1 fun K k => ?_ | refine st2 fun K k => ?_ | refine st3 rfl fun K k => ?_ | refine st4 fun K k => ?_); simp only [go_sem, b1, b2, b3, w5, List.length_take, encV]; refine k _ _ _ _ _ _ ?_; clear k K))
    refine ⟨i + 1, by omega, by omega, (Into.ren h0 [(0, 1)] 1 rfl).trans (Into.le ?_ ?_ (Nat.le_refl _) rfl)⟩
    · simp only [go_sem, newOf]
    · simp only [go_sem, newOf, e5, encV, subL_encV]
  · obtain rfl : i = xs.length := by omega
    refine iq Into.refl ?_
    repeat (first | refine st_end rfl ?_ | ((first | refine st1 fun K k => ?_ | refine st2 fun K k => ?_ | refine st3 rfl fun K k => ?_ | refine st4 fun K k => ?_); simp only [go_sem]; refine k _ _ _ _ _ _ ?_; clear k K))
    refine Done.mk (.inr rfl) Into.refl rfl [(0, 0)] 1 rfl ?_ ?_ rfl
    · simp only [go_sem, newOf]
    · simp only [go_sem, newOf, List.take_length, subL_encV]
theorem f125_at (b : Nat) (xs : List Val) (hx : ∀ x ∈ xs, FnOK sys 82 [.agg (encV x)] [] (.agg (encV x)) []) (hl : xs.length ≤ 1000000) : FnOK sys 125 [rowV xs] [] (.own b xs.length) [(b, .row 33 7 (xs.map encV))] := by
  have h := FnOK.ren (args' := [rowV xs]) [(b, 0)] (f125_ok xs hx hl) rfl rfl rfl rfl
  have e : List.map (subL (newOf [(b, 0)])) (xs.map encV) = xs.map encV := by
    rw [List.map_map]
    exact List.map_congr_left fun v _ => subL_encV _ v
  have e1 : subO (newOf [(b, 0)]) (.row 33 7 (xs.map encV)) = .row 33 7 (xs.map encV) := by simp only [subO, e]
  have hd : subD (newOf [(b, 0)]) (.own 0 xs.length) = .own b xs.length := by simp [subD, newOf]
  have hp : subS [(b, 0)] [(0, .row 33 7 (xs.map encV))] [(b, 0)] = [(b, .row 33 7 (xs.map encV))] := by simp only [subS, Abs.look, if_true]; rw [e1]
  have hq : subS [(b, 0)] [] [(b, 0)] = [] := rfl
  rw [hd, hp, hq] at h
  exact h
/-- The reference's Copy: everything at rest. -/
theorem f82_ok : ∀ (v : Val), Small v → FnOK sys 82 [.agg (encV v)] [] (.agg (encV v)) [] := by
  intro v hv
  induction hv with
  | mk kd s dn ds num cols rows h1 h2 h3 h4 ih =>
  have b1 : cols.length ≤ maxLen := by unfold maxLen; omega
  have b2 : cols.length * 16 ≤ 140737488355328 := by omega
  refine FnOK.intro Tryz.f82 (by kernel_rfl) rfl rfl [.cell 2 33] rfl 0 rfl (Nat.le_of_ble_eq_true rfl) rfl rfl fun E hN h0 => W.code (N := 31) [1] hN ?_
  have hrl : encRs rows = rows.map fun r => [rowV r] := by rw [encRs_map, List.map_map]; rfl
  simp only [encV, hrl]
  repeat (first | refine st_end rfl ?_ | ((first | refine st1 fun K k => ?_ | refine st2 fun K k => ?_ | refine st3 rfl fun K k => ?_ | refine st4 fun K k => ?_); simp only [go_sem, b1, b2, Nat.zero_add]; refine k _ _ _ _ _ _ ?_; clear k K))
  (first | refine st1 fun K k => ?_ | refine st3 rfl fun K k => ?_); simp only [go_sem, b1, b2, Nat.zero_add]
  refine ⟨fun x hx => by obtain ⟨q, _, rfl⟩ := List.mem_map.1 hx; rfl, ?_⟩
  refine k _ _ _ _ _ _ ?_; clear k K
  repeat (first | refine st_end rfl ?_ | ((first | refine st1 fun K k => ?_ | refine st2 fun K k => ?_ | refine st3 rfl fun K k => ?_ | refine st4 fun K k => ?_); simp only [go_sem]; refine k _ _ _ _ _ _ ?_; clear k K))
  refine W.loopP (fun i : Nat => ⟨[(1, .ep [.v (.int .i64 kd), .s s, .v (.int .i64 dn), .v (.int .i64 ds), .v (.int .i64 num), strsD cols, rowsV rows]), (2, .ref 0 0), (3, .ref 1 0), (4, .v (.int .i64 i))],
      [(0, .box [.v (.int .i64 0), .s [], .v (.int .i64 0), .v (.int .i64 0), .v (.int .i64 0), .v (.slice none 0 0), .v (.slice none 0 0)]), (1, .box [.v (.int .i64 kd), .s s, .v (.int .i64 dn), .v (.int .i64 ds), .v (.int .i64 num), .own 3 cols.length, .own 4 i]), (3, .row 9 1 (cols.map fun s => [.s s])), (4, .row 45 1 ((rows.take i).map fun r => [rowV r]))], 5, []⟩)
    (fun i => i ≤ rows.length) (fun i => rows.length - i) 0 (Nat.zero_le _) ((Into.nilCell 1 6 45 1 rfl rfl).trans (Into.le ?_ ?_ (Nat.le_refl _) rfl)) fun i hi => W.code (N := 31) [1] hN ?_
  · simp only [go_sem]
    exact LeD.refl _
  · simp only [go_sem]
  repeat (first | refine st_end rfl ?_ | ((first | refine st1 fun K k => ?_ | refine st2 fun K k => ?_ | refine st3 rfl fun K k => ?_ | refine st4 fun K k => ?_); simp only [go_sem]; refine k _ _ _ _ _ _ ?_; clear k K))
  refine st_cond fun A B a b => ?_; simp only [go_sem]; refine ⟨fun g => a ?_, fun g => b ?_⟩ <;> clear a b A B
  · obtain ⟨r, hr⟩ := getS (l := rows) (i := i) (by omega)
    have hrm := List.mem_of_getElem? hr
    have e5 : rows.take (i + 1) = rows.take i ++ [r] := by rw [List.take_add_one, hr]; rfl
    have w5 : IntKind.wrap .i64 ((i : Int) + 1) = ((i + 1 : Nat) : Int) := wrapTo (by omega)
    have b1 : i + 1 ≤ maxLen := by unfold maxLen; omega
    have b2 : (i + 1) * 24 ≤ 140737488355328 := by omega
    have b3 : min i rows.length = i := by omega
    repeat (first | refine st_end rfl ?_ | ((first | refine st1 fun K k => ?_ | refine st2 fun K k => ?_ | refine st3 rfl fun K k => ?_ | refine st4 fun K k => ?_); simp only [go_sem, hr]; refine k _ _ _ _ _ _ ?_; clear k K))
    (first | refine st1 fun K k => ?_ | refine st3 rfl fun K k => ?_); simp only [go_sem]
    refine callT (f125_at 5 r (fun v hv => ih r hrm v hv) (h3 r hrm)) 6 (by simp only [go_sem]) (by omega) (by simp only [go_sem]) ?_
    simp only [go_sem]
    refine k _ _ _ _ _ _ ?_; clear k K
    repeat (first | refine st_end rfl ?_ | ((first | refine st1 fun K k => ?_ | refine st2 fun K k => ?_ | refine st3 rfl fun K k => ?_ | refine st4 fun K k => ?_); simp only [go_sem, b1, b2, b3, w5, List.length_take, vAppendO]; refine k _ _ _ _ _ _ ?_; clear k K))
    refine ⟨i + 1, by omega, by omega, (Into.frz [5] ?_).trans ((Into.ren h0 [(0, 0), (1, 1), (3, 3), (4, 7)] 5 rfl).trans (Into.le ?_ ?_ (Nat.le_refl _) rfl))⟩
    · simp only [go_sem]
      intro e he
      obtain ⟨q, _, rfl⟩ := List.mem_map.1 he
      exact freeL_enc q
    · simp only [go_sem, newOf]
    · simp only [go_sem, newOf, e5, List.length_map]
  · obtain rfl : i = rows.length := by omega
    refine iq (Into.frz [3, 4] ?_) ?_
    · simp only [go_sem]
      refine ⟨fun e he => ?_, fun e he => ?_⟩
      · obtain ⟨q, _, rfl⟩ := List.mem_map.1 he; rfl
      · obtain ⟨q, _, rfl⟩ := List.mem_map.1 he; rfl
    simp only [go_sem, List.take_length, List.length_map]
    repeat (first | refine st_end rfl ?_ | ((first | refine st1 fun K k => ?_ | refine st2 fun K k => ?_ | refine st3 rfl fun K k => ?_ | refine st4 fun K k => ?_); simp only [go_sem]; refine k _ _ _ _ _ _ ?_; clear k K))
    refine Done.mk (.inr rfl) Into.refl rfl [] 0 rfl ?_ trivial rfl
    simp only [go_sem]
end Go.Proofs.YtjgooecohepkoaaGreatDoor
namespace Go.Proofs.YtjgooecohepkoaaGreatDoor
open Go Go.Abs
set_option linter.unusedSimpArgs false
set_option maxHeartbeats 2000000
/-! ### Copies of tables that are written to afterwards: columns and rows are one's own, and so is one of the rows -/
theorem frzL_encV (S : Store) (v : Val) : frzL S (encV v) = encV v := by
  obtain ⟨kd, s, dn, ds, num, cols, rows⟩ := v
  simp only [encV, frzL, frzD, strsD]
def ownPost (cols : List (List UInt8)) (rows : List (List Val)) (k : Nat) : Store :=
  match rows[k]? with
  | some r => [(0, .row 9 1 (cols.map fun s => [.s s])), (1, .row 45 1 (((rows.take k).map fun r => [rowV r]) ++ [.own 2 r.length] :: ((rows.drop (k + 1)).map fun r => [rowV r]))), (2, .row 33 7 (r.map encV))]
  | none => [(0, .row 9 1 (cols.map fun s => [.s s])), (1, .row 45 1 (rows.map fun r => [rowV r]))]
theorem f82_own (k0 : Nat) (kd : Int) (s : List UInt8) (dn ds num : Int) (cols : List (List UInt8)) (rows : List (List Val)) (hv : Small (.mk kd s dn ds num cols rows)) :
    FnOK sys 82 [.agg (encV (.mk kd s dn ds num cols rows))] [] (.agg [.v (.int .i64 kd), .s s, .v (.int .i64 dn), .v (.int .i64 ds), .v (.int .i64 num), .own 0 cols.length, .own 1 rows.length]) (ownPost cols rows k0) := by
  obtain ⟨_, _, _, _, _, _, _, h1, h2, h3, h4⟩ := hv
  have b1 : cols.length ≤ maxLen := by unfold maxLen; omega
  have b2 : cols.length * 16 ≤ 140737488355328 := by omega
  refine FnOK.intro Tryz.f82 (by kernel_rfl) rfl rfl [.cell 2 33] rfl 0 rfl (Nat.le_of_ble_eq_true rfl) rfl rfl fun E hN h0 => W.code (N := 31) [1] hN ?_
  have hrl : encRs rows = rows.map fun r => [rowV r] := by rw [encRs_map, List.map_map]; rfl
  simp only [encV, hrl]
  repeat (first | refine st_end rfl ?_ | ((first | refine st1 fun K k => ?_ | refine st2 fun K k => ?_ | refine st3 rfl fun K k => ?_ | refine st4 fun K k => ?_); simp only [go_sem, b1, b2, Nat.zero_add]; refine k _ _ _ _ _ _ ?_; clear k K))
  (first | refine st1 fun K k => ?_ | refine st3 rfl fun K k => ?_); simp only [go_sem, b1, b2, Nat.zero_add]
  refine ⟨fun x hx => by obtain ⟨q, _, rfl⟩ := List.mem_map.1 hx; rfl, ?_⟩
  refine k _ _ _ _ _ _ ?_; clear k K
  repeat (first | refine st_end rfl ?_ | ((first | refine st1 fun K k => ?_ | refine st2 fun K k => ?_ | refine st3 rfl fun K k => ?_ | refine st4 fun K k => ?_); simp only [go_sem]; refine k _ _ _ _ _ _ ?_; clear k K))
  obtain ⟨inv, hA, hB⟩ : ∃ inv : Nat → St,
      (∀ i, i ≤ k0 → inv i = ⟨[(1, .ep [.v (.int .i64 kd), .s s, .v (.int .i64 dn), .v (.int .i64 ds), .v (.int .i64 num), strsD cols, rowsV rows]), (2, .ref 0 0), (3, .ref 1 0), (4, .v (.int .i64 i))],
        [(0, .box [.v (.int .i64 0), .s [], .v (.int .i64 0), .v (.int .i64 0), .v (.int .i64 0), .v (.slice none 0 0), .v (.slice none 0 0)]), (1, .box [.v (.int .i64 kd), .s s, .v (.int .i64 dn), .v (.int .i64 ds), .v (.int .i64 num), .own 3 cols.length, .own 4 i]), (3, .row 9 1 (cols.map fun s => [.s s])), (4, .row 45 1 ((rows.take i).map fun r => [rowV r]))], 6, []⟩) ∧
      (∀ i, k0 < i → inv i = ⟨[(1, .ep [.v (.int .i64 kd), .s s, .v (.int .i64 dn), .v (.int .i64 ds), .v (.int .i64 num), strsD cols, rowsV rows]), (2, .ref 0 0), (3, .ref 1 0), (4, .v (.int .i64 i))],
        [(0, .box [.v (.int .i64 0), .s [], .v (.int .i64 0), .v (.int .i64 0), .v (.int .i64 0), .v (.slice none 0 0), .v (.slice none 0 0)]), (1, .box [.v (.int .i64 kd), .s s, .v (.int .i64 dn), .v (.int .i64 ds), .v (.int .i64 num), .own 3 cols.length, .own 4 i]), (3, .row 9 1 (cols.map fun s => [.s s])),
          (4, .row 45 1 (((rows.take k0).map fun r => [rowV r]) ++ [.own 5 (rows.getD k0 []).length] :: (((rows.take i).drop (k0 + 1)).map fun r => [rowV r]))), (5, .row 33 7 ((rows.getD k0 []).map encV))], 6, []⟩) :=
    ⟨fun i => if k0 < i then _ else _, fun i h => if_neg (by omega), fun i h => if_pos h⟩
  refine W.loopP inv (fun i => i ≤ rows.length) (fun i => rows.length - i) 0 (Nat.zero_le _) ?_ fun i hi => ?_
  · rw [hA 0 (Nat.zero_le _)]
    refine (Into.nilCell 1 6 45 1 rfl rfl).trans (Into.le ?_ ?_ (Nat.le_succ _) rfl)
    · simp only [go_sem]
      exact LeD.refl _
    · simp only [go_sem]
  have w5 : IntKind.wrap .i64 ((i : Int) + 1) = ((i + 1 : Nat) : Int) := wrapTo (by omega)
  by_cases hlt : (i : Int) < rows.length
  · obtain ⟨r, hr⟩ := getS (l := rows) (i := i) (by omega)
    have hrm := List.mem_of_getElem? hr
    have e5 : rows.take (i + 1) = rows.take i ++ [r] := by rw [List.take_add_one, hr]; rfl
    have b1 : i + 1 ≤ maxLen := by unfold maxLen; omega
    have b2 : (i + 1) * 24 ≤ 140737488355328 := by omega
    have b3 : min i rows.length = i := by omega
    have hcells : ∀ v ∈ r, FnOK sys 82 [.agg (encV v)] [] (.agg (encV v)) [] := fun v hv => f82_ok v (h4 r hrm v hv)
    rcases Nat.lt_trichotomy i k0 with hik | hik | hik
    · rw [hA i (by omega)]
      refine W.code (N := 31) [1] hN ?_
      repeat (first | refine st_end rfl ?_ | ((first | refine st1 fun K k => ?_ | refine st2 fun K k => ?_ | refine st3 rfl fun K k => ?_ | refine st4 fun K k => ?_); simp only [go_sem, hlt, decide_true, hr]; refine k _ _ _ _ _ _ ?_; clear k K))
      (first | refine st1 fun K k => ?_ | refine st3 rfl fun K k => ?_); simp only [go_sem]
      refine callT (f125_at 6 r hcells (h3 r hrm)) 7 (by simp only [go_sem]) (by omega) (by simp only [go_sem]) ?_
      simp only [go_sem]
      refine k _ _ _ _ _ _ ?_; clear k K
      repeat (first | refine st_end rfl ?_ | ((first | refine st1 fun K k => ?_ | refine st2 fun K k => ?_ | refine st3 rfl fun K k => ?_ | refine st4 fun K k => ?_); simp only [go_sem, b1, b2, b3, w5, List.length_take, vAppendO]; refine k _ _ _ _ _ _ ?_; clear k K))
      refine ⟨i + 1, by omega, by omega, ?_⟩
      rw [hA (i + 1) (by omega)]
      refine (Into.frz [6] ?_).trans ((Into.ren h0 [(0, 0), (1, 1), (3, 3), (4, 8)] 6 rfl).trans (Into.le ?_ ?_ (Nat.le_refl _) rfl))
      · simp only [go_sem]
        intro e he
        obtain ⟨q, _, rfl⟩ := List.mem_map.1 he
        exact freeL_enc q
      · simp only [go_sem, newOf]
      · simp only [go_sem, newOf, e5, List.length_map]
    · rw [hA i (by omega)]
      refine W.code (N := 31) [1] hN ?_
      repeat (first | refine st_end rfl ?_ | ((first | refine st1 fun K k => ?_ | refine st2 fun K k => ?_ | refine st3 rfl fun K k => ?_ | refine st4 fun K k => ?_); simp only [go_sem, hlt, decide_true, hr]; refine k _ _ _ _ _ _ ?_; clear k K))
      (first | refine st1 fun K k => ?_ | refine st3 rfl fun K k => ?_); simp only [go_sem]
      refine callT (f125_at 6 r hcells (h3 r hrm)) 7 (by simp only [go_sem]) (by omega) (by simp only [go_sem]) ?_
      simp only [go_sem]
      refine k _ _ _ _ _ _ ?_; clear k K
      repeat (first | refine st_end rfl ?_ | ((first | refine st1 fun K k => ?_ | refine st2 fun K k => ?_ | refine st3 rfl fun K k => ?_ | refine st4 fun K k => ?_); simp only [go_sem, b1, b2, b3, w5, List.length_take, vAppendO]; refine k _ _ _ _ _ _ ?_; clear k K))
      refine ⟨i + 1, by omega, by omega, ?_⟩
      subst hik
      have hget : rows.getD i [] = r := by rw [List.getD_eq_getElem?_getD, hr]; rfl
      have hdr : (rows.take (i + 1)).drop (i + 1) = [] := List.drop_of_length_le (by simp; omega)
      rw [hB (i + 1) (by omega)]
      refine (Into.ren h0 [(0, 0), (1, 1), (3, 3), (4, 8), (5, 6)] 6 rfl).trans (Into.le ?_ ?_ (Nat.le_refl _) rfl)
      · simp only [go_sem, newOf]
      · simp only [go_sem, newOf, hget, hdr, subL_encV]
    · rw [hB i (by omega)]
      refine W.code (N := 31) [1] hN ?_
      have hlen : (List.map (fun r => [rowV r]) (List.take k0 rows) ++ [.own 5 (rows.getD k0 []).length] :: List.map (fun r => [rowV r]) (List.drop (k0 + 1) (List.take i rows))).length = i := by
        simp; omega
      have hlen2 : (List.map (fun r => [D.sl (List.map encV r) 7]) (List.take k0 rows) ++ [.own 5 (rows.getD k0 []).length] :: List.map (fun r => [D.sl (List.map encV r) 7]) (List.drop (k0 + 1) (List.take i rows))).length = i := hlen
      have hdr : (rows.take (i + 1)).drop (k0 + 1) = (rows.take i).drop (k0 + 1) ++ [r] := by
        rw [e5, List.drop_append_of_le_length (by simp; omega)]
      repeat (first | refine st_end rfl ?_ | ((first | refine st1 fun K k => ?_ | refine st2 fun K k => ?_ | refine st3 rfl fun K k => ?_ | refine st4 fun K k => ?_); simp only [go_sem, hlt, decide_true, hr]; refine k _ _ _ _ _ _ ?_; clear k K))
      (first | refine st1 fun K k => ?_ | refine st3 rfl fun K k => ?_); simp only [go_sem]
      refine callT (f125_at 6 r hcells (h3 r hrm)) 7 (by simp only [go_sem]) (by omega) (by simp only [go_sem]) ?_
      simp only [go_sem]
      refine k _ _ _ _ _ _ ?_; clear k K
      repeat (first | refine st_end rfl ?_ | ((first | refine st1 fun K k => ?_ | refine st2 fun K k => ?_ | refine st3 rfl fun K k => ?_ | refine st4 fun K k => ?_); simp only [go_sem, b1, b2, b3, w5, hlen2, vAppendO]; refine k _ _ _ _ _ _ ?_; clear k K))
      refine ⟨i + 1, by omega, by omega, ?_⟩
      rw [hB (i + 1) (by omega)]
      refine (Into.frz [6] ?_).trans ((Into.ren h0 [(0, 0), (1, 1), (3, 3), (4, 8), (5, 5)] 6 rfl).trans (Into.le ?_ ?_ (Nat.le_refl _) rfl))
      · simp only [go_sem]
        intro e he
        obtain ⟨q, _, rfl⟩ := List.mem_map.1 he
        exact freeL_enc q
      · simp only [go_sem, newOf]
      · simp only [go_sem, newOf, hdr, List.length_map, subL_encV, List.append_assoc, List.map_append, List.cons_append, frzL_encV]
  · obtain rfl : i = rows.length := by omega
    rcases Nat.lt_or_ge k0 rows.length with hk | hk
    · rw [hB _ hk]
      refine W.code (N := 31) [1] hN ?_
      repeat (first | refine st_end rfl ?_ | ((first | refine st1 fun K k => ?_ | refine st2 fun K k => ?_ | refine st3 rfl fun K k => ?_ | refine st4 fun K k => ?_); simp only [go_sem, hlt, decide_false]; refine k _ _ _ _ _ _ ?_; clear k K))
      refine iq Into.refl ?_
      repeat (first | refine st_end rfl ?_ | ((first | refine st1 fun K k => ?_ | refine st2 fun K k => ?_ | refine st3 rfl fun K k => ?_ | refine st4 fun K k => ?_); simp only [go_sem]; refine k _ _ _ _ _ _ ?_; clear k K))
      obtain ⟨r, hr⟩ := getS (l := rows) (i := k0) hk
      have hget : rows.getD k0 [] = r := by rw [List.getD_eq_getElem?_getD, hr]; rfl
      refine Done.mk (.inr rfl) Into.refl rfl [(0, 3), (1, 4), (2, 5)] 3 rfl ?_ ?_ ?_
      · simp only [go_sem, newOf]
      · simp only [ownPost, hr]
        simp only [go_sem, newOf, hget, List.take_length, subL_encV]
      · simp only [ownPost, hr]
        rfl
    · rw [hA _ hk]
      refine W.code (N := 31) [1] hN ?_
      repeat (first | refine st_end rfl ?_ | ((first | refine st1 fun K k => ?_ | refine st2 fun K k => ?_ | refine st3 rfl fun K k => ?_ | refine st4 fun K k => ?_); simp only [go_sem, hlt, decide_false]; refine k _ _ _ _ _ _ ?_; clear k K))
      refine iq Into.refl ?_
      repeat (first | refine st_end rfl ?_ | ((first | refine st1 fun K k => ?_ | refine st2 fun K k => ?_ | refine st3 rfl fun K k => ?_ | refine st4 fun K k => ?_); simp only [go_sem]; refine k _ _ _ _ _ _ ?_; clear k K))
      have hn : rows[k0]? = none := List.getElem?_eq_none hk
      refine Done.mk (.inr rfl) Into.refl rfl [(0, 3), (1, 4)] 2 rfl ?_ ?_ ?_
      · simp only [go_sem, newOf]
      · simp only [ownPost, hn]
        simp only [go_sem, newOf, List.take_length]
      · simp only [ownPost, hn]
        rfl
end Go.Proofs.YtjgooecohepkoaaGreatDoor
namespace Go.Proofs.YtjgooecohepkoaaGreatDoor
open Go Go.Abs
set_option linter.unusedSimpArgs false
set_option maxHeartbeats 2000000
/-! ### Copies of lookup tables -/
def rowsO (k c : Nat) (r : List Val) (rows : List (List Val)) : List (List D) := ((rows.take k).map fun r => [rowV r]) ++ [.own c r.length] :: ((rows.drop (k + 1)).map fun r => [rowV r])
theorem f82_some (k0 : Nat) (r : List Val) (kd : Int) (s : List UInt8) (dn ds num : Int) (cols : List (List UInt8)) (rows : List (List Val)) (hv : Small (.mk kd s dn ds num cols rows)) (hr : rows[k0]? = some r) :
    FnOK sys 82 [.agg (encV (.mk kd s dn ds num cols rows))] [] (.agg [.v (.int .i64 kd), .s s, .v (.int .i64 dn), .v (.int .i64 ds), .v (.int .i64 num), .own 1 cols.length, .own 2 rows.length])
      [(1, .row 9 1 (cols.map fun s => [.s s])), (2, .row 45 1 (rowsO k0 3 r rows)), (3, .row 33 7 (r.map encV))] := by
  have h := f82_own k0 kd s dn ds num cols rows hv
  simp only [ownPost, hr] at h
  have h' := FnOK.ren (args' := [.agg (encV (.mk kd s dn ds num cols rows))]) [(1, 0), (2, 1), (3, 2)] h rfl (by simp only [subL, subD, subL_encV]) rfl rfl
  have e1 : subD (newOf [(1, 0), (2, 1), (3, 2)]) (.agg [.v (.int .i64 kd), .s s, .v (.int .i64 dn), .v (.int .i64 ds), .v (.int .i64 num), .own 0 cols.length, .own 1 rows.length]) = .agg [.v (.int .i64 kd), .s s, .v (.int .i64 dn), .v (.int .i64 ds), .v (.int .i64 num), .own 1 cols.length, .own 2 rows.length] := rfl
  have e2 : subS [(1, 0), (2, 1), (3, 2)] [(0, AO.row 9 1 (cols.map fun s => [.s s])), (1, .row 45 1 (((rows.take k0).map fun r => [rowV r]) ++ [.own 2 r.length] :: ((rows.drop (k0 + 1)).map fun r => [rowV r]))), (2, .row 33 7 (r.map encV))] [(1, 0), (2, 1), (3, 2)] =
      [(1, .row 9 1 (cols.map fun s => [.s s])), (2, .row 45 1 (rowsO k0 3 r rows)), (3, .row 33 7 (r.map encV))] := by
    simp [subS, Abs.look, subO, subL, subD, newOf, rowsO, rowV, Function.comp_def, subL_encV]
  rw [e1, e2] at h'
  exact h'
theorem f82_none (k0 : Nat) (kd : Int) (s : List UInt8) (dn ds num : Int) (cols : List (List UInt8)) (rows : List (List Val)) (hv : Small (.mk kd s dn ds num cols rows)) (hr : rows.length ≤ k0) :
    FnOK sys 82 [.agg (encV (.mk kd s dn ds num cols rows))] [] (.agg [.v (.int .i64 kd), .s s, .v (.int .i64 dn), .v (.int .i64 ds), .v (.int .i64 num), .own 1 cols.length, .own 2 rows.length])
      [(1, .row 9 1 (cols.map fun s => [.s s])), (2, .row 45 1 (rows.map fun r => [rowV r]))] := by
  have h := f82_own k0 kd s dn ds num cols rows hv
  simp only [ownPost, List.getElem?_eq_none hr] at h
  have h' := FnOK.ren (args' := [.agg (encV (.mk kd s dn ds num cols rows))]) [(1, 0), (2, 1)] h rfl (by simp only [subL, subD, subL_encV]) rfl rfl
  have e1 : subD (newOf [(1, 0), (2, 1)]) (.agg [.v (.int .i64 kd), .s s, .v (.int .i64 dn), .v (.int .i64 ds), .v (.int .i64 num), .own 0 cols.length, .own 1 rows.length]) = .agg [.v (.int .i64 kd), .s s, .v (.int .i64 dn), .v (.int .i64 ds), .v (.int .i64 num), .own 1 cols.length, .own 2 rows.length] := rfl
  have e2 : subS [(1, 0), (2, 1)] [(0, AO.row 9 1 (cols.map fun s => [.s s])), (1, .row 45 1 (rows.map fun r => [rowV r]))] [(1, 0), (2, 1)] =
      [(1, .row 9 1 (cols.map fun s => [.s s])), (2, .row 45 1 (rows.map fun r => [rowV r]))] := by
    simp [subS, Abs.look, subO, subL, subD, rowV, Function.comp_def]
  rw [e1, e2] at h'
  exact h'
theorem f50_some (k0 : Nat) (r : List Val) (name : List UInt8) (cols : List (List UInt8)) (rows : List (List Val)) (hv : Small (.mk 5 [] 0 0 0 cols rows)) (hr : rows[k0]? = some r) :
    FnOK sys 50 [.agg [.s name, strsD cols, rowsV rows]] [] (.agg [.s name, .own 2 cols.length, .own 3 rows.length]) [(2, .row 9 1 (cols.map fun s => [.s s])), (3, .row 45 1 (rowsO k0 4 r rows)), (4, .row 33 7 (r.map encV))] := by
  refine FnOK.intro Tryz.f50 (by kernel_rfl) rfl rfl [.cell 2 28] rfl 0 rfl (Nat.le_of_ble_eq_true rfl) rfl rfl fun E hN h0 => W.code (N := 14) [1] hN ?_
  have h21 := f21_ok name cols rows
  have h82 := f82_some k0 r 5 [] 0 0 0 cols rows hv hr
  simp only [encV] at h21 h82
  repeat (first | refine st_end rfl ?_ | ((first | refine st1 fun K k => ?_ | refine st2 fun K k => ?_ | refine st3 rfl fun K k => ?_ | refine st4 fun K k => ?_); simp only [go_sem]; refine k _ _ _ _ _ _ ?_; clear k K))
  (first | refine st1 fun K k => ?_ | refine st3 rfl fun K k => ?_); simp only [go_sem]; refine callP (h21) ?_; refine k _ _ _ _ _ _ ?_; clear k K
  repeat (first | refine st_end rfl ?_ | ((first | refine st1 fun K k => ?_ | refine st2 fun K k => ?_ | refine st3 rfl fun K k => ?_ | refine st4 fun K k => ?_); simp only [go_sem]; refine k _ _ _ _ _ _ ?_; clear k K))
  (first | refine st1 fun K k => ?_ | refine st3 rfl fun K k => ?_); simp only [go_sem]
  refine callT h82 4 (by simp only [go_sem]) (by omega) (by simp only [go_sem]) ?_
  simp only [go_sem]
  refine k _ _ _ _ _ _ ?_; clear k K
  repeat (first | refine st_end rfl ?_ | ((first | refine st1 fun K k => ?_ | refine st2 fun K k => ?_ | refine st3 rfl fun K k => ?_ | refine st4 fun K k => ?_); simp only [go_sem]; refine k _ _ _ _ _ _ ?_; clear k K))
  refine Done.mk (.inr rfl) Into.refl rfl [(2, 1), (3, 2), (4, 3)] 5 rfl ?_ ?_ rfl
  · simp only [go_sem, newOf]
  · simp only [go_sem, newOf, subL_encV, rowsO]
theorem f50_none (name : List UInt8) (cols : List (List UInt8)) (rows : List (List Val)) (hv : Small (.mk 5 [] 0 0 0 cols rows)) :
    FnOK sys 50 [.agg [.s name, strsD cols, rowsV rows]] [] (.agg [.s name, .own 2 cols.length, .own 3 rows.length]) [(2, .row 9 1 (cols.map fun s => [.s s])), (3, .row 45 1 (rows.map fun r => [rowV r]))] := by
  refine FnOK.intro Tryz.f50 (by kernel_rfl) rfl rfl [.cell 2 28] rfl 0 rfl (Nat.le_of_ble_eq_true rfl) rfl rfl fun E hN h0 => W.code (N := 14) [1] hN ?_
  have h21 := f21_ok name cols rows
  have h82 := f82_none rows.length 5 [] 0 0 0 cols rows hv (Nat.le_refl _)
  simp only [encV] at h21 h82
  repeat (first | refine st_end rfl ?_ | ((first | refine st1 fun K k => ?_ | refine st2 fun K k => ?_ | refine st3 rfl fun K k => ?_ | refine st4 fun K k => ?_); simp only [go_sem]; refine k _ _ _ _ _ _ ?_; clear k K))
  (first | refine st1 fun K k => ?_ | refine st3 rfl fun K k => ?_); simp only [go_sem]; refine callP (h21) ?_; refine k _ _ _ _ _ _ ?_; clear k K
  repeat (first | refine st_end rfl ?_ | ((first | refine st1 fun K k => ?_ | refine st2 fun K k => ?_ | refine st3 rfl fun K k => ?_ | refine st4 fun K k => ?_); simp only [go_sem]; refine k _ _ _ _ _ _ ?_; clear k K))
  (first | refine st1 fun K k => ?_ | refine st3 rfl fun K k => ?_); simp only [go_sem]
  refine callT h82 4 (by simp only [go_sem]) (by omega) (by simp only [go_sem]) ?_
  simp only [go_sem]
  refine k _ _ _ _ _ _ ?_; clear k K
  repeat (first | refine st_end rfl ?_ | ((first | refine st1 fun K k => ?_ | refine st2 fun K k => ?_ | refine st3 rfl fun K k => ?_ | refine st4 fun K k => ?_); simp only [go_sem]; refine k _ _ _ _ _ _ ?_; clear k K))
  refine Done.mk (.inr rfl) Into.refl rfl [(2, 1), (3, 2)] 5 rfl ?_ ?_ rfl
  · simp only [go_sem, newOf]
  · simp only [go_sem, newOf]
end Go.Proofs.YtjgooecohepkoaaGreatDoor
