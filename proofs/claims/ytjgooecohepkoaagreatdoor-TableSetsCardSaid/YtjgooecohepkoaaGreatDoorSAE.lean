/- Contracts of the functions that the statement reaches. -/
import Derived.Test.YtjgooecohepkoaaGreatDoorSAD
import Derived.Test.YtjgooecohepkoaaGreatDoorSAB
import Derived.Test.YtjgooecohepkoaaGreatDoorEAM
set_option linter.unusedVariables false
set_option linter.unusedSimpArgs false
namespace Go.Proofs.YtjgooecohepkoaaGreatDoor
open Go Go.Abs
set_option linter.unusedSimpArgs false
set_option maxHeartbeats 2000000
/-! ### Plain texts -/
def plainB (c : UInt8) : Bool := decide (32 ≤ c.toNat) && decide (c.toNat ≤ 126)
def plainIx : List UInt8 → Nat → Int
  | [], _ => -1
  | c :: r, k => if plainB c then plainIx r (k + 1) else k
def plainR (s : List UInt8) : Bool := decide (s.length ≤ 200) && s.all plainB
theorem plainIx_iff : ∀ (s : List UInt8) (k : Nat), 0 ≤ plainIx s k ↔ s.all plainB = false
  | [], _ => by simp [plainIx]
  | c :: r, k => by
    have h0 : plainIx (c :: r) k = if plainB c then plainIx r (k + 1) else k := rfl
    rw [h0]
    by_cases h : plainB c = true
    · rw [if_pos h, plainIx_iff r (k + 1), List.all_cons, h, Bool.true_and]
    · rw [if_neg h, List.all_cons, show plainB c = false by simpa using h]; simp
theorem plainIx_neg (s : List UInt8) (k : Nat) : decide (0 ≤ plainIx s k) = !s.all plainB := by
  rw [Bool.eq_iff_iff, decide_eq_true_eq, plainIx_iff]; simp
theorem decode_low {s : List UInt8} {i : Nat} {c : UInt8} (h : s[i]? = some c) (hc : c.toNat < 128) : Utf8.decode ⟨⟨s⟩⟩ i = (c.toNat, 1) := by
  have e : ((⟨⟨s⟩⟩ : ByteArray).get! i) = c := by
    show (⟨s⟩ : Array UInt8)[i]! = c
    simp [h]
  unfold Utf8.decode
  simp only [Nat.add_zero, e]
  rw [if_pos (by simpa using hc)]
theorem decode_high {s : List UInt8} {i : Nat} {c : UInt8} (h : s[i]? = some c) (hc : 128 ≤ c.toNat) : 128 ≤ (Utf8.decode ⟨⟨s⟩⟩ i).1 := by
  have e : ((⟨⟨s⟩⟩ : ByteArray).get! i) = c := by
    show (⟨s⟩ : Array UInt8)[i]! = c
    simp [h]
  unfold Utf8.decode
  simp only [Nat.add_zero, e, Utf8.runeError]
  rw [if_neg (by simpa using hc)]
  split
  · split
    · simp_all
    · simp
  · split
    · split
      · rename_i h1; simp only [ge_iff_le, Bool.and_eq_true, decide_eq_true_eq] at h1; simp only; omega
      · simp
    · split
      · split
        · rename_i h1; simp only [ge_iff_le, Bool.and_eq_true, decide_eq_true_eq] at h1; simp only; omega
        · simp
      · simp
theorem f194_ok (n : Int) : FnOK sys 194 [.v (.int .i32 n)] [] (.v (.bool (decide (n < 32) || decide (126 < n)))) [] := by
  refine FnOK.intro Tryz.f194 (by kernel_rfl) rfl rfl [.tmp 2] rfl 0 rfl (Nat.le_of_ble_eq_true rfl) rfl rfl fun E hN h0 => W.code (N := 9) [] hN ?_
  repeat' (first | refine st_end rfl ?_ | ((first | refine st1 fun K k => ?_ | refine st2 fun K k => ?_ | refine st3 rfl fun K k => ?_ | refine st4 fun K k => ?_); simp only [go_sem]; first | (refine k _ _ _ _ _ _ ?_; clear k K) | (refine ⟨fun _ => ?_, fun _ => ?_⟩ <;> (try simp only [go_sem]) <;> (refine k _ _ _ _ _ _ ?_; clear k K)) | fail))
  all_goals
    refine Done.t1 ?_
    simp only [go_sem]
    rw [Bool.eq_iff_iff]
    simp only [Bool.or_eq_true, decide_eq_true_eq, true_iff, iff_true]
    omega
theorem f268_ok (s : List UInt8) : FnOK sys 268 [.s s, .v (.func (.func 194) #[] #[]), .v (.bool true)] [] (.v (.int .i64 (plainIx s 0))) [] := by
  refine FnOK.intro Tryz.f268 (by kernel_rfl) rfl rfl [.tmp 6] rfl 0 rfl (Nat.le_of_ble_eq_true rfl) rfl rfl fun E hN h0 => W.code (N := 21) [] hN ?_
  repeat (first | refine st_end rfl ?_ | ((first | refine st1 fun K k => ?_ | refine st2 fun K k => ?_ | refine st3 rfl fun K k => ?_ | refine st4 fun K k => ?_); simp only [go_sem]; refine k _ _ _ _ _ _ ?_; clear k K))
  refine W.loopP (fun i : Nat => ⟨[(0, .s s), (1, .v (.func (.func 194) #[] #[])), (2, .v (.bool true)), (10, .it 0)], [(0, .si s i)], 1, []⟩)
    (fun i => i ≤ s.length ∧ plainIx s 0 = plainIx (s.drop i) i) (fun i => s.length - i) 0 ⟨by omega, rfl⟩ (Into.le ?_ ?_ (Nat.le_refl _) rfl) fun i hi => W.code (N := 21) [] hN ?_
  · simp only [go_sem]
  · simp only [go_sem]
  by_cases hl : i < s.length
  · obtain ⟨c, hc⟩ := getS hl
    have hd : plainIx (s.drop i) i = if plainB c then plainIx (s.drop (i + 1)) (i + 1) else i := by rw [drop_at hc]; rfl
    by_cases h1 : c.toNat < 128
    · have hdec := decode_low hc h1
      repeat (first | refine st_end rfl ?_ | ((first | refine st1 fun K k => ?_ | refine st2 fun K k => ?_ | refine st3 rfl fun K k => ?_ | refine st4 fun K k => ?_); simp only [go_sem, hl, not_true_eq_false, hdec]; refine k _ _ _ _ _ _ ?_; clear k K))
      (first | refine st1 fun K k => ?_ | refine st3 rfl fun K k => ?_); simp only [go_sem]; refine callP (f194_ok c.toNat) ?_; refine k _ _ _ _ _ _ ?_; clear k K
      by_cases h2 : plainB c = true
      · have q : (decide ((c.toNat : Int) < 32) || decide (126 < (c.toNat : Int))) = false := by
          simp only [plainB, Bool.and_eq_true, decide_eq_true_eq] at h2
          simp only [Bool.or_eq_false_iff, decide_eq_false_iff_not]
          omega
        repeat (first | refine st_end rfl ?_ | ((first | refine st1 fun K k => ?_ | refine st2 fun K k => ?_ | refine st3 rfl fun K k => ?_ | refine st4 fun K k => ?_); simp only [go_sem, q, show (false == true) = false from rfl]; refine k _ _ _ _ _ _ ?_; clear k K))
        refine ⟨i + 1, ⟨by omega, by rw [hi.2, hd, if_pos h2]⟩, by omega, Into.le ?_ ?_ (Nat.le_refl _) rfl⟩
        · simp only [go_sem]
        · simp only [go_sem, hdec]
      · have q : (decide ((c.toNat : Int) < 32) || decide (126 < (c.toNat : Int))) = true := by
          simp only [plainB, Bool.and_eq_true, decide_eq_true_eq] at h2
          simp only [Bool.or_eq_true, decide_eq_true_eq]
          omega
        repeat (first | refine st_end rfl ?_ | ((first | refine st1 fun K k => ?_ | refine st2 fun K k => ?_ | refine st3 rfl fun K k => ?_ | refine st4 fun K k => ?_); simp only [go_sem, q, beq_self_eq_true]; refine k _ _ _ _ _ _ ?_; clear k K))
        refine iq Into.refl (Done.t1 ?_)
        simp only [go_sem, hi.2, hd, h2]
    · have hdec := decode_high hc (by omega)
      obtain ⟨u, hu⟩ : ∃ u, (Utf8.decode ⟨⟨s⟩⟩ i).1 = u := ⟨_, rfl⟩
      rw [hu] at hdec
      have h2 : ¬ plainB c = true := by
        simp only [plainB, Bool.and_eq_true, decide_eq_true_eq]
        omega
      have q : (decide ((u : Int) < 32) || decide (126 < (u : Int))) = true := by
        simp only [Bool.or_eq_true, decide_eq_true_eq]
        omega
      repeat (first | refine st_end rfl ?_ | ((first | refine st1 fun K k => ?_ | refine st2 fun K k => ?_ | refine st3 rfl fun K k => ?_ | refine st4 fun K k => ?_); simp only [go_sem, hl, not_true_eq_false, hu]; refine k _ _ _ _ _ _ ?_; clear k K))
      (first | refine st1 fun K k => ?_ | refine st3 rfl fun K k => ?_); simp only [go_sem]; refine callP (f194_ok u) ?_; refine k _ _ _ _ _ _ ?_; clear k K
      repeat (first | refine st_end rfl ?_ | ((first | refine st1 fun K k => ?_ | refine st2 fun K k => ?_ | refine st3 rfl fun K k => ?_ | refine st4 fun K k => ?_); simp only [go_sem, q, beq_self_eq_true]; refine k _ _ _ _ _ _ ?_; clear k K))
      refine iq Into.refl (Done.t1 ?_)
      simp only [go_sem, hi.2, hd, h2]
  · obtain rfl : i = s.length := by omega
    repeat (first | refine st_end rfl ?_ | ((first | refine st1 fun K k => ?_ | refine st2 fun K k => ?_ | refine st3 rfl fun K k => ?_ | refine st4 fun K k => ?_); simp only [go_sem, Nat.lt_irrefl, not_false_eq_true]; refine k _ _ _ _ _ _ ?_; clear k K))
    refine iq Into.refl ?_
    repeat (first | refine st_end rfl ?_ | ((first | refine st1 fun K k => ?_ | refine st2 fun K k => ?_ | refine st3 rfl fun K k => ?_ | refine st4 fun K k => ?_); simp only [go_sem]; refine k _ _ _ _ _ _ ?_; clear k K))
    refine Done.t1 ?_
    simp only [go_sem, hi.2, List.drop_length, plainIx]
theorem f242_ok (s : List UInt8) : FnOK sys 242 [.s s, .v (.func (.func 194) #[] #[])] [] (.v (.int .i64 (plainIx s 0))) [] := by
  refine FnOK.intro Tryz.f242 (by kernel_rfl) rfl rfl [.tmp 4] rfl 0 rfl (Nat.le_of_ble_eq_true rfl) rfl rfl fun E hN h0 => W.code (N := 8) [] hN ?_
  repeat (first | refine st_end rfl ?_ | ((first | refine st1 fun K k => ?_ | refine st2 fun K k => ?_ | refine st3 rfl fun K k => ?_ | refine st4 fun K k => ?_); simp only [go_sem]; refine k _ _ _ _ _ _ ?_; clear k K))
  (first | refine st1 fun K k => ?_ | refine st3 rfl fun K k => ?_); simp only [go_sem]; refine callP (f268_ok s) ?_; refine k _ _ _ _ _ _ ?_; clear k K
  repeat (first | refine st_end rfl ?_ | ((first | refine st1 fun K k => ?_ | refine st2 fun K k => ?_ | refine st3 rfl fun K k => ?_ | refine st4 fun K k => ?_); simp only [go_sem]; refine k _ _ _ _ _ _ ?_; clear k K))
  refine Done.t1 ?_
  simp only [go_sem]
theorem f193_ok (s : List UInt8) : FnOK sys 193 [.s s, .v (.func (.func 194) #[] #[])] [] (.v (.bool (!s.all plainB))) [] := by
  refine FnOK.intro Tryz.f193 (by kernel_rfl) rfl rfl [.tmp 4] rfl 0 rfl (Nat.le_of_ble_eq_true rfl) rfl rfl fun E hN h0 => W.code (N := 9) [] hN ?_
  repeat (first | refine st_end rfl ?_ | ((first | refine st1 fun K k => ?_ | refine st2 fun K k => ?_ | refine st3 rfl fun K k => ?_ | refine st4 fun K k => ?_); simp only [go_sem]; refine k _ _ _ _ _ _ ?_; clear k K))
  (first | refine st1 fun K k => ?_ | refine st3 rfl fun K k => ?_); simp only [go_sem]; refine callP (f242_ok s) ?_; refine k _ _ _ _ _ _ ?_; clear k K
  repeat (first | refine st_end rfl ?_ | ((first | refine st1 fun K k => ?_ | refine st2 fun K k => ?_ | refine st3 rfl fun K k => ?_ | refine st4 fun K k => ?_); simp only [go_sem, plainIx_neg]; refine k _ _ _ _ _ _ ?_; clear k K))
  refine Done.t1 ?_
  simp only [go_sem]
theorem f150_ok (s : List UInt8) : FnOK sys 150 [.s s] [] (.v (.bool (plainR s))) [] := by
  refine FnOK.intro Tryz.f150 (by kernel_rfl) rfl rfl [.tmp 2] rfl 0 rfl (Nat.le_of_ble_eq_true rfl) rfl rfl fun E hN h0 => W.code (N := 11) [] hN ?_
  by_cases h : (s.length : Int) ≤ 200
  · repeat (first | refine st_end rfl ?_ | ((first | refine st1 fun K k => ?_ | refine st2 fun K k => ?_ | refine st3 rfl fun K k => ?_ | refine st4 fun K k => ?_); simp only [go_sem, h, decide_true]; refine k _ _ _ _ _ _ ?_; clear k K))
    (first | refine st1 fun K k => ?_ | refine st3 rfl fun K k => ?_); simp only [go_sem]; refine callP (f193_ok s) ?_; refine k _ _ _ _ _ _ ?_; clear k K
    repeat (first | refine st_end rfl ?_ | ((first | refine st1 fun K k => ?_ | refine st2 fun K k => ?_ | refine st3 rfl fun K k => ?_ | refine st4 fun K k => ?_); simp only [go_sem]; refine k _ _ _ _ _ _ ?_; clear k K))
    refine Done.t1 ?_
    simp only [go_sem, plainR, Bool.not_not, show s.length ≤ 200 by omega, decide_true]
  · repeat (first | refine st_end rfl ?_ | ((first | refine st1 fun K k => ?_ | refine st2 fun K k => ?_ | refine st3 rfl fun K k => ?_ | refine st4 fun K k => ?_); simp only [go_sem, h, decide_false]; refine k _ _ _ _ _ _ ?_; clear k K))
    refine Done.t1 ?_
    simp only [go_sem, plainR, show ¬ s.length ≤ 200 by omega, decide_false, Bool.false_and]
end Go.Proofs.YtjgooecohepkoaaGreatDoor
namespace Go.Proofs.YtjgooecohepkoaaGreatDoor
open Go Go.Abs

theorem nf11 : Tryz.prog.funcs[11]? = some Tryz.f11 ∧ (Tryz.f11.name == "runtime.NumGoroutine") = false := ⟨by kernel_rfl, rfl⟩
theorem nf15 : Tryz.prog.funcs[15]? = some Tryz.f15 ∧ (Tryz.f15.name == "runtime.NumGoroutine") = false := ⟨by kernel_rfl, rfl⟩
theorem nf18 : Tryz.prog.funcs[18]? = some Tryz.f18 ∧ (Tryz.f18.name == "runtime.NumGoroutine") = false := ⟨by kernel_rfl, rfl⟩
theorem nf19 : Tryz.prog.funcs[19]? = some Tryz.f19 ∧ (Tryz.f19.name == "runtime.NumGoroutine") = false := ⟨by kernel_rfl, rfl⟩
theorem nf22 : Tryz.prog.funcs[22]? = some Tryz.f22 ∧ (Tryz.f22.name == "runtime.NumGoroutine") = false := ⟨by kernel_rfl, rfl⟩
theorem nf26 : Tryz.prog.funcs[26]? = some Tryz.f26 ∧ (Tryz.f26.name == "runtime.NumGoroutine") = false := ⟨by kernel_rfl, rfl⟩
theorem nf27 : Tryz.prog.funcs[27]? = some Tryz.f27 ∧ (Tryz.f27.name == "runtime.NumGoroutine") = false := ⟨by kernel_rfl, rfl⟩
theorem nf28 : Tryz.prog.funcs[28]? = some Tryz.f28 ∧ (Tryz.f28.name == "runtime.NumGoroutine") = false := ⟨by kernel_rfl, rfl⟩
theorem nf44 : Tryz.prog.funcs[44]? = some Tryz.f44 ∧ (Tryz.f44.name == "runtime.NumGoroutine") = false := ⟨by kernel_rfl, rfl⟩
theorem nf45 : Tryz.prog.funcs[45]? = some Tryz.f45 ∧ (Tryz.f45.name == "runtime.NumGoroutine") = false := ⟨by kernel_rfl, rfl⟩
theorem nf46 : Tryz.prog.funcs[46]? = some Tryz.f46 ∧ (Tryz.f46.name == "runtime.NumGoroutine") = false := ⟨by kernel_rfl, rfl⟩
theorem nf47 : Tryz.prog.funcs[47]? = some Tryz.f47 ∧ (Tryz.f47.name == "runtime.NumGoroutine") = false := ⟨by kernel_rfl, rfl⟩
theorem nf48 : Tryz.prog.funcs[48]? = some Tryz.f48 ∧ (Tryz.f48.name == "runtime.NumGoroutine") = false := ⟨by kernel_rfl, rfl⟩
theorem nf52 : Tryz.prog.funcs[52]? = some Tryz.f52 ∧ (Tryz.f52.name == "runtime.NumGoroutine") = false := ⟨by kernel_rfl, rfl⟩
theorem nf53 : Tryz.prog.funcs[53]? = some Tryz.f53 ∧ (Tryz.f53.name == "runtime.NumGoroutine") = false := ⟨by kernel_rfl, rfl⟩
theorem nf54 : Tryz.prog.funcs[54]? = some Tryz.f54 ∧ (Tryz.f54.name == "runtime.NumGoroutine") = false := ⟨by kernel_rfl, rfl⟩
theorem nf55 : Tryz.prog.funcs[55]? = some Tryz.f55 ∧ (Tryz.f55.name == "runtime.NumGoroutine") = false := ⟨by kernel_rfl, rfl⟩
theorem nf58 : Tryz.prog.funcs[58]? = some Tryz.f58 ∧ (Tryz.f58.name == "runtime.NumGoroutine") = false := ⟨by kernel_rfl, rfl⟩
theorem nf59 : Tryz.prog.funcs[59]? = some Tryz.f59 ∧ (Tryz.f59.name == "runtime.NumGoroutine") = false := ⟨by kernel_rfl, rfl⟩
theorem nf60 : Tryz.prog.funcs[60]? = some Tryz.f60 ∧ (Tryz.f60.name == "runtime.NumGoroutine") = false := ⟨by kernel_rfl, rfl⟩
theorem nf61 : Tryz.prog.funcs[61]? = some Tryz.f61 ∧ (Tryz.f61.name == "runtime.NumGoroutine") = false := ⟨by kernel_rfl, rfl⟩
theorem nf65 : Tryz.prog.funcs[65]? = some Tryz.f65 ∧ (Tryz.f65.name == "runtime.NumGoroutine") = false := ⟨by kernel_rfl, rfl⟩
theorem nf66 : Tryz.prog.funcs[66]? = some Tryz.f66 ∧ (Tryz.f66.name == "runtime.NumGoroutine") = false := ⟨by kernel_rfl, rfl⟩
theorem nf67 : Tryz.prog.funcs[67]? = some Tryz.f67 ∧ (Tryz.f67.name == "runtime.NumGoroutine") = false := ⟨by kernel_rfl, rfl⟩
theorem nf71 : Tryz.prog.funcs[71]? = some Tryz.f71 ∧ (Tryz.f71.name == "runtime.NumGoroutine") = false := ⟨by kernel_rfl, rfl⟩
theorem nf72 : Tryz.prog.funcs[72]? = some Tryz.f72 ∧ (Tryz.f72.name == "runtime.NumGoroutine") = false := ⟨by kernel_rfl, rfl⟩
theorem nf73 : Tryz.prog.funcs[73]? = some Tryz.f73 ∧ (Tryz.f73.name == "runtime.NumGoroutine") = false := ⟨by kernel_rfl, rfl⟩
theorem nf74 : Tryz.prog.funcs[74]? = some Tryz.f74 ∧ (Tryz.f74.name == "runtime.NumGoroutine") = false := ⟨by kernel_rfl, rfl⟩
theorem nf75 : Tryz.prog.funcs[75]? = some Tryz.f75 ∧ (Tryz.f75.name == "runtime.NumGoroutine") = false := ⟨by kernel_rfl, rfl⟩
theorem nf76 : Tryz.prog.funcs[76]? = some Tryz.f76 ∧ (Tryz.f76.name == "runtime.NumGoroutine") = false := ⟨by kernel_rfl, rfl⟩
theorem nf77 : Tryz.prog.funcs[77]? = some Tryz.f77 ∧ (Tryz.f77.name == "runtime.NumGoroutine") = false := ⟨by kernel_rfl, rfl⟩
theorem nf78 : Tryz.prog.funcs[78]? = some Tryz.f78 ∧ (Tryz.f78.name == "runtime.NumGoroutine") = false := ⟨by kernel_rfl, rfl⟩
theorem nf81 : Tryz.prog.funcs[81]? = some Tryz.f81 ∧ (Tryz.f81.name == "runtime.NumGoroutine") = false := ⟨by kernel_rfl, rfl⟩
theorem nf86 : Tryz.prog.funcs[86]? = some Tryz.f86 ∧ (Tryz.f86.name == "runtime.NumGoroutine") = false := ⟨by kernel_rfl, rfl⟩
theorem nf91 : Tryz.prog.funcs[91]? = some Tryz.f91 ∧ (Tryz.f91.name == "runtime.NumGoroutine") = false := ⟨by kernel_rfl, rfl⟩
theorem nf92 : Tryz.prog.funcs[92]? = some Tryz.f92 ∧ (Tryz.f92.name == "runtime.NumGoroutine") = false := ⟨by kernel_rfl, rfl⟩
theorem nf93 : Tryz.prog.funcs[93]? = some Tryz.f93 ∧ (Tryz.f93.name == "runtime.NumGoroutine") = false := ⟨by kernel_rfl, rfl⟩
theorem nf94 : Tryz.prog.funcs[94]? = some Tryz.f94 ∧ (Tryz.f94.name == "runtime.NumGoroutine") = false := ⟨by kernel_rfl, rfl⟩
theorem nf95 : Tryz.prog.funcs[95]? = some Tryz.f95 ∧ (Tryz.f95.name == "runtime.NumGoroutine") = false := ⟨by kernel_rfl, rfl⟩
theorem nf96 : Tryz.prog.funcs[96]? = some Tryz.f96 ∧ (Tryz.f96.name == "runtime.NumGoroutine") = false := ⟨by kernel_rfl, rfl⟩
theorem nf97 : Tryz.prog.funcs[97]? = some Tryz.f97 ∧ (Tryz.f97.name == "runtime.NumGoroutine") = false := ⟨by kernel_rfl, rfl⟩
theorem nf98 : Tryz.prog.funcs[98]? = some Tryz.f98 ∧ (Tryz.f98.name == "runtime.NumGoroutine") = false := ⟨by kernel_rfl, rfl⟩
theorem nf100 : Tryz.prog.funcs[100]? = some Tryz.f100 ∧ (Tryz.f100.name == "runtime.NumGoroutine") = false := ⟨by kernel_rfl, rfl⟩
theorem nf101 : Tryz.prog.funcs[101]? = some Tryz.f101 ∧ (Tryz.f101.name == "runtime.NumGoroutine") = false := ⟨by kernel_rfl, rfl⟩
theorem nf102 : Tryz.prog.funcs[102]? = some Tryz.f102 ∧ (Tryz.f102.name == "runtime.NumGoroutine") = false := ⟨by kernel_rfl, rfl⟩
theorem nf106 : Tryz.prog.funcs[106]? = some Tryz.f106 ∧ (Tryz.f106.name == "runtime.NumGoroutine") = false := ⟨by kernel_rfl, rfl⟩
theorem nf107 : Tryz.prog.funcs[107]? = some Tryz.f107 ∧ (Tryz.f107.name == "runtime.NumGoroutine") = false := ⟨by kernel_rfl, rfl⟩
theorem nf108 : Tryz.prog.funcs[108]? = some Tryz.f108 ∧ (Tryz.f108.name == "runtime.NumGoroutine") = false := ⟨by kernel_rfl, rfl⟩
theorem nf109 : Tryz.prog.funcs[109]? = some Tryz.f109 ∧ (Tryz.f109.name == "runtime.NumGoroutine") = false := ⟨by kernel_rfl, rfl⟩
theorem nf110 : Tryz.prog.funcs[110]? = some Tryz.f110 ∧ (Tryz.f110.name == "runtime.NumGoroutine") = false := ⟨by kernel_rfl, rfl⟩
theorem nf114 : Tryz.prog.funcs[114]? = some Tryz.f114 ∧ (Tryz.f114.name == "runtime.NumGoroutine") = false := ⟨by kernel_rfl, rfl⟩
theorem nf115 : Tryz.prog.funcs[115]? = some Tryz.f115 ∧ (Tryz.f115.name == "runtime.NumGoroutine") = false := ⟨by kernel_rfl, rfl⟩
theorem nf116 : Tryz.prog.funcs[116]? = some Tryz.f116 ∧ (Tryz.f116.name == "runtime.NumGoroutine") = false := ⟨by kernel_rfl, rfl⟩
theorem nf117 : Tryz.prog.funcs[117]? = some Tryz.f117 ∧ (Tryz.f117.name == "runtime.NumGoroutine") = false := ⟨by kernel_rfl, rfl⟩
theorem nf118 : Tryz.prog.funcs[118]? = some Tryz.f118 ∧ (Tryz.f118.name == "runtime.NumGoroutine") = false := ⟨by kernel_rfl, rfl⟩
theorem nf119 : Tryz.prog.funcs[119]? = some Tryz.f119 ∧ (Tryz.f119.name == "runtime.NumGoroutine") = false := ⟨by kernel_rfl, rfl⟩
theorem nf120 : Tryz.prog.funcs[120]? = some Tryz.f120 ∧ (Tryz.f120.name == "runtime.NumGoroutine") = false := ⟨by kernel_rfl, rfl⟩
theorem nf121 : Tryz.prog.funcs[121]? = some Tryz.f121 ∧ (Tryz.f121.name == "runtime.NumGoroutine") = false := ⟨by kernel_rfl, rfl⟩
theorem nf122 : Tryz.prog.funcs[122]? = some Tryz.f122 ∧ (Tryz.f122.name == "runtime.NumGoroutine") = false := ⟨by kernel_rfl, rfl⟩
theorem nf123 : Tryz.prog.funcs[123]? = some Tryz.f123 ∧ (Tryz.f123.name == "runtime.NumGoroutine") = false := ⟨by kernel_rfl, rfl⟩
theorem nf124 : Tryz.prog.funcs[124]? = some Tryz.f124 ∧ (Tryz.f124.name == "runtime.NumGoroutine") = false := ⟨by kernel_rfl, rfl⟩
theorem nf127 : Tryz.prog.funcs[127]? = some Tryz.f127 ∧ (Tryz.f127.name == "runtime.NumGoroutine") = false := ⟨by kernel_rfl, rfl⟩
theorem nf138 : Tryz.prog.funcs[138]? = some Tryz.f138 ∧ (Tryz.f138.name == "runtime.NumGoroutine") = false := ⟨by kernel_rfl, rfl⟩
theorem nf139 : Tryz.prog.funcs[139]? = some Tryz.f139 ∧ (Tryz.f139.name == "runtime.NumGoroutine") = false := ⟨by kernel_rfl, rfl⟩
theorem nf140 : Tryz.prog.funcs[140]? = some Tryz.f140 ∧ (Tryz.f140.name == "runtime.NumGoroutine") = false := ⟨by kernel_rfl, rfl⟩
theorem nf141 : Tryz.prog.funcs[141]? = some Tryz.f141 ∧ (Tryz.f141.name == "runtime.NumGoroutine") = false := ⟨by kernel_rfl, rfl⟩
theorem nf142 : Tryz.prog.funcs[142]? = some Tryz.f142 ∧ (Tryz.f142.name == "runtime.NumGoroutine") = false := ⟨by kernel_rfl, rfl⟩
theorem nf146 : Tryz.prog.funcs[146]? = some Tryz.f146 ∧ (Tryz.f146.name == "runtime.NumGoroutine") = false := ⟨by kernel_rfl, rfl⟩
theorem nf147 : Tryz.prog.funcs[147]? = some Tryz.f147 ∧ (Tryz.f147.name == "runtime.NumGoroutine") = false := ⟨by kernel_rfl, rfl⟩
theorem nf148 : Tryz.prog.funcs[148]? = some Tryz.f148 ∧ (Tryz.f148.name == "runtime.NumGoroutine") = false := ⟨by kernel_rfl, rfl⟩
theorem nf149 : Tryz.prog.funcs[149]? = some Tryz.f149 ∧ (Tryz.f149.name == "runtime.NumGoroutine") = false := ⟨by kernel_rfl, rfl⟩
theorem nf150 : Tryz.prog.funcs[150]? = some Tryz.f150 ∧ (Tryz.f150.name == "runtime.NumGoroutine") = false := ⟨by kernel_rfl, rfl⟩
theorem nf151 : Tryz.prog.funcs[151]? = some Tryz.f151 ∧ (Tryz.f151.name == "runtime.NumGoroutine") = false := ⟨by kernel_rfl, rfl⟩
theorem nf152 : Tryz.prog.funcs[152]? = some Tryz.f152 ∧ (Tryz.f152.name == "runtime.NumGoroutine") = false := ⟨by kernel_rfl, rfl⟩
theorem nf153 : Tryz.prog.funcs[153]? = some Tryz.f153 ∧ (Tryz.f153.name == "runtime.NumGoroutine") = false := ⟨by kernel_rfl, rfl⟩
theorem nf154 : Tryz.prog.funcs[154]? = some Tryz.f154 ∧ (Tryz.f154.name == "runtime.NumGoroutine") = false := ⟨by kernel_rfl, rfl⟩
theorem nf155 : Tryz.prog.funcs[155]? = some Tryz.f155 ∧ (Tryz.f155.name == "runtime.NumGoroutine") = false := ⟨by kernel_rfl, rfl⟩
theorem nf156 : Tryz.prog.funcs[156]? = some Tryz.f156 ∧ (Tryz.f156.name == "runtime.NumGoroutine") = false := ⟨by kernel_rfl, rfl⟩
theorem nf157 : Tryz.prog.funcs[157]? = some Tryz.f157 ∧ (Tryz.f157.name == "runtime.NumGoroutine") = false := ⟨by kernel_rfl, rfl⟩
theorem nf158 : Tryz.prog.funcs[158]? = some Tryz.f158 ∧ (Tryz.f158.name == "runtime.NumGoroutine") = false := ⟨by kernel_rfl, rfl⟩
theorem nf159 : Tryz.prog.funcs[159]? = some Tryz.f159 ∧ (Tryz.f159.name == "runtime.NumGoroutine") = false := ⟨by kernel_rfl, rfl⟩
theorem nf163 : Tryz.prog.funcs[163]? = some Tryz.f163 ∧ (Tryz.f163.name == "runtime.NumGoroutine") = false := ⟨by kernel_rfl, rfl⟩
theorem nf164 : Tryz.prog.funcs[164]? = some Tryz.f164 ∧ (Tryz.f164.name == "runtime.NumGoroutine") = false := ⟨by kernel_rfl, rfl⟩
theorem nf165 : Tryz.prog.funcs[165]? = some Tryz.f165 ∧ (Tryz.f165.name == "runtime.NumGoroutine") = false := ⟨by kernel_rfl, rfl⟩
theorem nf166 : Tryz.prog.funcs[166]? = some Tryz.f166 ∧ (Tryz.f166.name == "runtime.NumGoroutine") = false := ⟨by kernel_rfl, rfl⟩
theorem nf175 : Tryz.prog.funcs[175]? = some Tryz.f175 ∧ (Tryz.f175.name == "runtime.NumGoroutine") = false := ⟨by kernel_rfl, rfl⟩
theorem nf176 : Tryz.prog.funcs[176]? = some Tryz.f176 ∧ (Tryz.f176.name == "runtime.NumGoroutine") = false := ⟨by kernel_rfl, rfl⟩
theorem nf177 : Tryz.prog.funcs[177]? = some Tryz.f177 ∧ (Tryz.f177.name == "runtime.NumGoroutine") = false := ⟨by kernel_rfl, rfl⟩
theorem nf178 : Tryz.prog.funcs[178]? = some Tryz.f178 ∧ (Tryz.f178.name == "runtime.NumGoroutine") = false := ⟨by kernel_rfl, rfl⟩
theorem nf179 : Tryz.prog.funcs[179]? = some Tryz.f179 ∧ (Tryz.f179.name == "runtime.NumGoroutine") = false := ⟨by kernel_rfl, rfl⟩
theorem nf180 : Tryz.prog.funcs[180]? = some Tryz.f180 ∧ (Tryz.f180.name == "runtime.NumGoroutine") = false := ⟨by kernel_rfl, rfl⟩
theorem nf189 : Tryz.prog.funcs[189]? = some Tryz.f189 ∧ (Tryz.f189.name == "runtime.NumGoroutine") = false := ⟨by kernel_rfl, rfl⟩
theorem nf192 : Tryz.prog.funcs[192]? = some Tryz.f192 ∧ (Tryz.f192.name == "runtime.NumGoroutine") = false := ⟨by kernel_rfl, rfl⟩
theorem nf193 : Tryz.prog.funcs[193]? = some Tryz.f193 ∧ (Tryz.f193.name == "runtime.NumGoroutine") = false := ⟨by kernel_rfl, rfl⟩
theorem nf194 : Tryz.prog.funcs[194]? = some Tryz.f194 ∧ (Tryz.f194.name == "runtime.NumGoroutine") = false := ⟨by kernel_rfl, rfl⟩
theorem nf195 : Tryz.prog.funcs[195]? = some Tryz.f195 ∧ (Tryz.f195.name == "runtime.NumGoroutine") = false := ⟨by kernel_rfl, rfl⟩
theorem nf196 : Tryz.prog.funcs[196]? = some Tryz.f196 ∧ (Tryz.f196.name == "runtime.NumGoroutine") = false := ⟨by kernel_rfl, rfl⟩
theorem nf197 : Tryz.prog.funcs[197]? = some Tryz.f197 ∧ (Tryz.f197.name == "runtime.NumGoroutine") = false := ⟨by kernel_rfl, rfl⟩
theorem nf198 : Tryz.prog.funcs[198]? = some Tryz.f198 ∧ (Tryz.f198.name == "runtime.NumGoroutine") = false := ⟨by kernel_rfl, rfl⟩
theorem nf199 : Tryz.prog.funcs[199]? = some Tryz.f199 ∧ (Tryz.f199.name == "runtime.NumGoroutine") = false := ⟨by kernel_rfl, rfl⟩
theorem nf200 : Tryz.prog.funcs[200]? = some Tryz.f200 ∧ (Tryz.f200.name == "runtime.NumGoroutine") = false := ⟨by kernel_rfl, rfl⟩
theorem nf201 : Tryz.prog.funcs[201]? = some Tryz.f201 ∧ (Tryz.f201.name == "runtime.NumGoroutine") = false := ⟨by kernel_rfl, rfl⟩
theorem nf202 : Tryz.prog.funcs[202]? = some Tryz.f202 ∧ (Tryz.f202.name == "runtime.NumGoroutine") = false := ⟨by kernel_rfl, rfl⟩
theorem nf203 : Tryz.prog.funcs[203]? = some Tryz.f203 ∧ (Tryz.f203.name == "runtime.NumGoroutine") = false := ⟨by kernel_rfl, rfl⟩
theorem nf204 : Tryz.prog.funcs[204]? = some Tryz.f204 ∧ (Tryz.f204.name == "runtime.NumGoroutine") = false := ⟨by kernel_rfl, rfl⟩
theorem nf216 : Tryz.prog.funcs[216]? = some Tryz.f216 ∧ (Tryz.f216.name == "runtime.NumGoroutine") = false := ⟨by kernel_rfl, rfl⟩
theorem nf217 : Tryz.prog.funcs[217]? = some Tryz.f217 ∧ (Tryz.f217.name == "runtime.NumGoroutine") = false := ⟨by kernel_rfl, rfl⟩
theorem nf218 : Tryz.prog.funcs[218]? = some Tryz.f218 ∧ (Tryz.f218.name == "runtime.NumGoroutine") = false := ⟨by kernel_rfl, rfl⟩
theorem nf219 : Tryz.prog.funcs[219]? = some Tryz.f219 ∧ (Tryz.f219.name == "runtime.NumGoroutine") = false := ⟨by kernel_rfl, rfl⟩
theorem nf220 : Tryz.prog.funcs[220]? = some Tryz.f220 ∧ (Tryz.f220.name == "runtime.NumGoroutine") = false := ⟨by kernel_rfl, rfl⟩
theorem nf221 : Tryz.prog.funcs[221]? = some Tryz.f221 ∧ (Tryz.f221.name == "runtime.NumGoroutine") = false := ⟨by kernel_rfl, rfl⟩
theorem nf222 : Tryz.prog.funcs[222]? = some Tryz.f222 ∧ (Tryz.f222.name == "runtime.NumGoroutine") = false := ⟨by kernel_rfl, rfl⟩
theorem nf223 : Tryz.prog.funcs[223]? = some Tryz.f223 ∧ (Tryz.f223.name == "runtime.NumGoroutine") = false := ⟨by kernel_rfl, rfl⟩
theorem nf224 : Tryz.prog.funcs[224]? = some Tryz.f224 ∧ (Tryz.f224.name == "runtime.NumGoroutine") = false := ⟨by kernel_rfl, rfl⟩
theorem nf225 : Tryz.prog.funcs[225]? = some Tryz.f225 ∧ (Tryz.f225.name == "runtime.NumGoroutine") = false := ⟨by kernel_rfl, rfl⟩
theorem nf226 : Tryz.prog.funcs[226]? = some Tryz.f226 ∧ (Tryz.f226.name == "runtime.NumGoroutine") = false := ⟨by kernel_rfl, rfl⟩
theorem nf241 : Tryz.prog.funcs[241]? = some Tryz.f241 ∧ (Tryz.f241.name == "runtime.NumGoroutine") = false := ⟨by kernel_rfl, rfl⟩
theorem nf242 : Tryz.prog.funcs[242]? = some Tryz.f242 ∧ (Tryz.f242.name == "runtime.NumGoroutine") = false := ⟨by kernel_rfl, rfl⟩
theorem nf243 : Tryz.prog.funcs[243]? = some Tryz.f243 ∧ (Tryz.f243.name == "runtime.NumGoroutine") = false := ⟨by kernel_rfl, rfl⟩
theorem nf244 : Tryz.prog.funcs[244]? = some Tryz.f244 ∧ (Tryz.f244.name == "runtime.NumGoroutine") = false := ⟨by kernel_rfl, rfl⟩
theorem nf245 : Tryz.prog.funcs[245]? = some Tryz.f245 ∧ (Tryz.f245.name == "runtime.NumGoroutine") = false := ⟨by kernel_rfl, rfl⟩
theorem nf246 : Tryz.prog.funcs[246]? = some Tryz.f246 ∧ (Tryz.f246.name == "runtime.NumGoroutine") = false := ⟨by kernel_rfl, rfl⟩
theorem nf247 : Tryz.prog.funcs[247]? = some Tryz.f247 ∧ (Tryz.f247.name == "runtime.NumGoroutine") = false := ⟨by kernel_rfl, rfl⟩
theorem nf248 : Tryz.prog.funcs[248]? = some Tryz.f248 ∧ (Tryz.f248.name == "runtime.NumGoroutine") = false := ⟨by kernel_rfl, rfl⟩
theorem nf268 : Tryz.prog.funcs[268]? = some Tryz.f268 ∧ (Tryz.f268.name == "runtime.NumGoroutine") = false := ⟨by kernel_rfl, rfl⟩
theorem nf269 : Tryz.prog.funcs[269]? = some Tryz.f269 ∧ (Tryz.f269.name == "runtime.NumGoroutine") = false := ⟨by kernel_rfl, rfl⟩
noncomputable def fns : Tree Func := (.node (.node (.node (.node (.node (.node (.node .leaf 11 Tryz.f11 .leaf) 15 Tryz.f15 (.node .leaf 18 Tryz.f18 .leaf)) 19 Tryz.f19 (.node (.node .leaf 22 Tryz.f22 .leaf) 26 Tryz.f26 (.node .leaf 27 Tryz.f27 .leaf))) 28 Tryz.f28 (.node (.node (.node .leaf 44 Tryz.f44 .leaf) 45 Tryz.f45 (.node .leaf 46 Tryz.f46 .leaf)) 47 Tryz.f47 (.node (.node .leaf 48 Tryz.f48 .leaf) 52 Tryz.f52 (.node .leaf 53 Tryz.f53 .leaf)))) 54 Tryz.f54 (.node (.node (.node (.node .leaf 55 Tryz.f55 .leaf) 58 Tryz.f58 (.node .leaf 59 Tryz.f59 .leaf)) 60 Tryz.f60 (.node (.node .leaf 61 Tryz.f61 .leaf) 65 Tryz.f65 (.node .leaf 66 Tryz.f66 .leaf))) 67 Tryz.f67 (.node (.node (.node .leaf 71 Tryz.f71 .leaf) 72 Tryz.f72 (.node .leaf 73 Tryz.f73 .leaf)) 74 Tryz.f74 (.node (.node .leaf 75 Tryz.f75 .leaf) 76 Tryz.f76 (.node .leaf 77 Tryz.f77 .leaf))))) 78 Tryz.f78 (.node (.node (.node (.node (.node .leaf 81 Tryz.f81 .leaf) 86 Tryz.f86 (.node .leaf 91 Tryz.f91 .leaf)) 92 Tryz.f92 (.node (.node .leaf 93 Tryz.f93 .leaf) 94 Tryz.f94 (.node .leaf 95 Tryz.f95 .leaf))) 96 Tryz.f96 (.node (.node (.node .leaf 97 Tryz.f97 .leaf) 98 Tryz.f98 (.node .leaf 100 Tryz.f100 .leaf)) 101 Tryz.f101 (.node (.node .leaf 102 Tryz.f102 .leaf) 106 Tryz.f106 (.node .leaf 107 Tryz.f107 .leaf)))) 108 Tryz.f108 (.node (.node (.node (.node .leaf 109 Tryz.f109 .leaf) 110 Tryz.f110 (.node .leaf 114 Tryz.f114 .leaf)) 115 Tryz.f115 (.node (.node .leaf 116 Tryz.f116 .leaf) 117 Tryz.f117 (.node .leaf 118 Tryz.f118 .leaf))) 119 Tryz.f119 (.node (.node (.node .leaf 120 Tryz.f120 .leaf) 121 Tryz.f121 (.node .leaf 122 Tryz.f122 .leaf)) 123 Tryz.f123 (.node (.node .leaf 124 Tryz.f124 .leaf) 127 Tryz.f127 (.node .leaf 138 Tryz.f138 .leaf)))))) 139 Tryz.f139 (.node (.node (.node (.node (.node (.node .leaf 140 Tryz.f140 .leaf) 141 Tryz.f141 (.node .leaf 142 Tryz.f142 .leaf)) 146 Tryz.f146 (.node (.node .leaf 147 Tryz.f147 .leaf) 148 Tryz.f148 (.node .leaf 149 Tryz.f149 .leaf))) 150 Tryz.f150 (.node (.node (.node .leaf 151 Tryz.f151 .leaf) 152 Tryz.f152 (.node .leaf 153 Tryz.f153 .leaf)) 154 Tryz.f154 (.node (.node .leaf 155 Tryz.f155 .leaf) 156 Tryz.f156 (.node .leaf 157 Tryz.f157 .leaf)))) 158 Tryz.f158 (.node (.node (.node (.node .leaf 159 Tryz.f159 .leaf) 163 Tryz.f163 (.node .leaf 164 Tryz.f164 .leaf)) 165 Tryz.f165 (.node (.node .leaf 166 Tryz.f166 .leaf) 175 Tryz.f175 (.node .leaf 176 Tryz.f176 .leaf))) 177 Tryz.f177 (.node (.node (.node .leaf 178 Tryz.f178 .leaf) 179 Tryz.f179 (.node .leaf 180 Tryz.f180 .leaf)) 189 Tryz.f189 (.node (.node .leaf 192 Tryz.f192 .leaf) 193 Tryz.f193 (.node .leaf 194 Tryz.f194 .leaf))))) 195 Tryz.f195 (.node (.node (.node (.node (.node .leaf 196 Tryz.f196 .leaf) 197 Tryz.f197 (.node .leaf 198 Tryz.f198 .leaf)) 199 Tryz.f199 (.node (.node .leaf 200 Tryz.f200 .leaf) 201 Tryz.f201 (.node .leaf 202 Tryz.f202 .leaf))) 203 Tryz.f203 (.node (.node (.node .leaf 204 Tryz.f204 .leaf) 216 Tryz.f216 (.node .leaf 217 Tryz.f217 .leaf)) 218 Tryz.f218 (.node (.node .leaf 219 Tryz.f219 .leaf) 220 Tryz.f220 (.node .leaf 221 Tryz.f221 .leaf)))) 222 Tryz.f222 (.node (.node (.node (.node .leaf 223 Tryz.f223 .leaf) 224 Tryz.f224 (.node .leaf 225 Tryz.f225 .leaf)) 226 Tryz.f226 (.node (.node .leaf 241 Tryz.f241 .leaf) 242 Tryz.f242 (.node .leaf 243 Tryz.f243 .leaf))) 244 Tryz.f244 (.node (.node (.node .leaf 245 Tryz.f245 .leaf) 246 Tryz.f246 (.node .leaf 247 Tryz.f247 .leaf)) 248 Tryz.f248 (.node (.node .leaf 268 Tryz.f268 .leaf) 269 Tryz.f269 .leaf))))))
theorem fns_all : fns.All (fun k fn => Tryz.prog.funcs[k]? = some fn ∧ (fn.name == "runtime.NumGoroutine") = false) := ⟨⟨⟨⟨⟨⟨⟨trivial, nf11, trivial⟩, nf15, ⟨trivial, nf18, trivial⟩⟩, nf19, ⟨⟨trivial, nf22, trivial⟩, nf26, ⟨trivial, nf27, trivial⟩⟩⟩, nf28, ⟨⟨⟨trivial, nf44, trivial⟩, nf45, ⟨trivial, nf46, trivial⟩⟩, nf47, ⟨⟨trivial, nf48, trivial⟩, nf52, ⟨trivial, nf53, trivial⟩⟩⟩⟩, nf54, ⟨⟨⟨⟨trivial, nf55, trivial⟩, nf58, ⟨trivial, nf59, trivial⟩⟩, nf60, ⟨⟨trivial, nf61, trivial⟩, nf65, ⟨trivial, nf66, trivial⟩⟩⟩, nf67, ⟨⟨⟨trivial, nf71, trivial⟩, nf72, ⟨trivial, nf73, trivial⟩⟩, nf74, ⟨⟨trivial, nf75, trivial⟩, nf76, ⟨trivial, nf77, trivial⟩⟩⟩⟩⟩, nf78, ⟨⟨⟨⟨⟨trivial, nf81, trivial⟩, nf86, ⟨trivial, nf91, trivial⟩⟩, nf92, ⟨⟨trivial, nf93, trivial⟩, nf94, ⟨trivial, nf95, trivial⟩⟩⟩, nf96, ⟨⟨⟨trivial, nf97, trivial⟩, nf98, ⟨trivial, nf100, trivial⟩⟩, nf101, ⟨⟨trivial, nf102, trivial⟩, nf106, ⟨trivial, nf107, trivial⟩⟩⟩⟩, nf108, ⟨⟨⟨⟨trivial, nf109, trivial⟩, nf110, ⟨trivial, nf114, trivial⟩⟩, nf115, ⟨⟨trivial, nf116, trivial⟩, nf117, ⟨trivial, nf118, trivial⟩⟩⟩, nf119, ⟨⟨⟨trivial, nf120, trivial⟩, nf121, ⟨trivial, nf122, trivial⟩⟩, nf123, ⟨⟨trivial, nf124, trivial⟩, nf127, ⟨trivial, nf138, trivial⟩⟩⟩⟩⟩⟩, nf139, ⟨⟨⟨⟨⟨⟨trivial, nf140, trivial⟩, nf141, ⟨trivial, nf142, trivial⟩⟩, nf146, ⟨⟨trivial, nf147, trivial⟩, nf148, ⟨trivial, nf149, trivial⟩⟩⟩, nf150, ⟨⟨⟨trivial, nf151, trivial⟩, nf152, ⟨trivial, nf153, trivial⟩⟩, nf154, ⟨⟨trivial, nf155, trivial⟩, nf156, ⟨trivial, nf157, trivial⟩⟩⟩⟩, nf158, ⟨⟨⟨⟨trivial, nf159, trivial⟩, nf163, ⟨trivial, nf164, trivial⟩⟩, nf165, ⟨⟨trivial, nf166, trivial⟩, nf175, ⟨trivial, nf176, trivial⟩⟩⟩, nf177, ⟨⟨⟨trivial, nf178, trivial⟩, nf179, ⟨trivial, nf180, trivial⟩⟩, nf189, ⟨⟨trivial, nf192, trivial⟩, nf193, ⟨trivial, nf194, trivial⟩⟩⟩⟩⟩, nf195, ⟨⟨⟨⟨⟨trivial, nf196, trivial⟩, nf197, ⟨trivial, nf198, trivial⟩⟩, nf199, ⟨⟨trivial, nf200, trivial⟩, nf201, ⟨trivial, nf202, trivial⟩⟩⟩, nf203, ⟨⟨⟨trivial, nf204, trivial⟩, nf216, ⟨trivial, nf217, trivial⟩⟩, nf218, ⟨⟨trivial, nf219, trivial⟩, nf220, ⟨trivial, nf221, trivial⟩⟩⟩⟩, nf222, ⟨⟨⟨⟨trivial, nf223, trivial⟩, nf224, ⟨trivial, nf225, trivial⟩⟩, nf226, ⟨⟨trivial, nf241, trivial⟩, nf242, ⟨trivial, nf243, trivial⟩⟩⟩, nf244, ⟨⟨⟨trivial, nf245, trivial⟩, nf246, ⟨trivial, nf247, trivial⟩⟩, nf248, ⟨⟨trivial, nf268, trivial⟩, nf269, trivial⟩⟩⟩⟩⟩⟩
theorem fns_ok : ∀ k fn, fns.get k = some fn → Tryz.prog.funcs[k]? = some fn ∧ (fn.name == "runtime.NumGoroutine") = false := Tree.get_all fns_all
end Go.Proofs.YtjgooecohepkoaaGreatDoor
namespace Go.Proofs.YtjgooecohepkoaaGreatDoor
open Go Go.Abs
def sub64E : Array Value → Sem Value := fun args => do
  let (x, y, b) ← Extern.MathBitsCarry.three "Sub64" args
  pure (Extern.MathBitsCarry.pair ((x + Extern.MathBitsCarry.m64 - y - b) % Extern.MathBitsCarry.m64) (if x < y + b then 1 else 0))
theorem run_sub64E {P : Program} (x y b : Nat) (hb : b ≤ 1) (w : World) :
    (sub64E #[.int .u64 x, .int .u64 y, .int .u64 b]).run P w =
      .ok (.tuple #[.int .u64 (((x + 18446744073709551616 - y - b) % 18446744073709551616 : Nat) : Int), .int .u64 ((if x < y + b then 1 else 0 : Nat) : Int)]) w := by
  have : b = 0 ∨ b = 1 := by omega
  rcases this with rfl | rfl <;> rfl
theorem ext161 (x y : Nat) (c : Nat) (hc : c ≤ 1) : ExtOK sys 161 [.v (.int .u64 x), .v (.int .u64 y), .v (.int .u64 c)] (.tup [.v (.int .u64 (((x + y + c) % 18446744073709551616 : Nat) : Int)), .v (.int .u64 (((x + y + c) / 18446744073709551616 : Nat) : Int))]) := by
  intro w g vs hvs
  have : vs = [.int .u64 x, .int .u64 y, .int .u64 c] := RepL.eq_v (ys := [.int .u64 x, .int .u64 y, .int .u64 c]) hvs
  subst this
  refine ⟨.tuple #[.int .u64 (((x + y + c) % 18446744073709551616 : Nat) : Int), .int .u64 (((x + y + c) / 18446744073709551616 : Nat) : Int)], ?_, ?_⟩
  · refine (run_callFunc_extern (P := Tryz.prog) (fn := Tryz.f161) (by kernel_rfl) (by kernel_rfl) (by kernel_rfl) (by kernel_rfl) (e := add64Entry) (by kernel_rfl) _ w).trans ?_
    rw [run_add64 x y c (by omega) (by omega) (by omega) (by omega)]
    simp only [Result.andThen]
    congr 5 <;> omega
  · simp only [Rep]
    exact ⟨_, rfl, by simp [RepL, Rep]⟩
theorem ext162 (x y : Nat) (b : Nat) (hb : b ≤ 1) : ExtOK sys 162 [.v (.int .u64 x), .v (.int .u64 y), .v (.int .u64 b)] (.tup [.v (.int .u64 (((x + 18446744073709551616 - y - b) % 18446744073709551616 : Nat) : Int)), .v (.int .u64 ((if x < y + b then 1 else 0 : Nat) : Int))]) := by
  intro w g vs hvs
  have : vs = [.int .u64 x, .int .u64 y, .int .u64 b] := RepL.eq_v (ys := [.int .u64 x, .int .u64 y, .int .u64 b]) hvs
  subst this
  refine ⟨.tuple #[.int .u64 (((x + 18446744073709551616 - y - b) % 18446744073709551616 : Nat) : Int), .int .u64 ((if x < y + b then 1 else 0 : Nat) : Int)], ?_, ?_⟩
  · refine (run_callFunc_extern (P := Tryz.prog) (fn := Tryz.f162) (by kernel_rfl) (by kernel_rfl) (by kernel_rfl) (by kernel_rfl) (e := sub64E) (by kernel_rfl) _ w).trans ?_
    rw [run_sub64E x y b hb]
    rfl
  · simp only [Rep]
    exact ⟨_, rfl, by simp [RepL, Rep]⟩
noncomputable def ext : Nat → List D → Option D := fun k args => match args with
  | [.v (.int .u64 (.ofNat x)), .v (.int .u64 (.ofNat y)), .v (.int .u64 (.ofNat c))] => whn (Nat.ble c 1) (match Nat.beq k 161 with
    | true => some (.tup [.v (.int .u64 (((x + y + c) % 18446744073709551616 : Nat) : Int)), .v (.int .u64 (((x + y + c) / 18446744073709551616 : Nat) : Int))])
    | false => whn (Nat.beq k 162) (some (.tup [.v (.int .u64 (((x + 18446744073709551616 - y - c) % 18446744073709551616 : Nat) : Int)), .v (.int .u64 ((bif Nat.blt x (y + c) then 1 else 0 : Nat) : Int))])))
  | _ => none
theorem ext_ok : ExtsOK sys ext := by
  intro k args d h
  unfold ext at h
  split at h
  · rename_i x y c
    simp only [whn_some, Nat.ble_eq] at h
    obtain ⟨hc, h⟩ := h
    split at h
    · rename_i hk
      cases h
      have := Nat.eq_of_beq_eq_true hk
      subst this
      exact ext161 x y c hc
    · simp only [whn_some] at h
      obtain ⟨hk, h⟩ := h
      cases h
      have := Nat.eq_of_beq_eq_true hk
      subst this
      have e : (bif Nat.blt x (y + c) then 1 else 0 : Nat) = if x < y + c then 1 else 0 := by
        by_cases hlt : x < y + c
        · have : Nat.blt x (y + c) = true := by simpa using hlt
          rw [this, if_pos hlt]; rfl
        · have : Nat.blt x (y + c) = false := by
            cases hb : Nat.blt x (y + c) with
            | false => rfl
            | true => simp at hb; omega
          rw [this, if_neg hlt]; rfl
      rw [e]
      exact ext162 x y c hc
  · cases h
end Go.Proofs.YtjgooecohepkoaaGreatDoor
namespace Go.Proofs.YtjgooecohepkoaaGreatDoor
open Go Go.Abs
/-! ### Constants, without a hook -/
noncomputable def hk0 : Nat → List D → Store → Nat → Option XC := fun _ _ _ _ => none
theorem hk0_ok : HookOK sys hk0 := by
  intro k args S nx d pre post nx' h
  cases h
def fuel0 : Nat := 1000000
noncomputable def RX0 : Run := X sys.T sys.gl fns.get hk0 ext fuel0
noncomputable def xg (k : Nat) (args : List D) (S : Store) (n : Nat) : Option XC := xCall sys.T fns.get hk0 RX0 k args S n
theorem xg_fn {k : Nat} {args : List D} {S : Store} {n : Nat} {d : D} {pre post : Store} {n' : Nat} (h : xg k args S n = some (d, pre, post, n')) : FnOK sys k args pre d post := by
  unfold xg RX0 at h
  exact X_fn (Y := sys) (fns := fns.get) (hk := hk0) (ext := ext) fns_ok hk0_ok ext_ok fuel0 h
end Go.Proofs.YtjgooecohepkoaaGreatDoor
namespace Go.Proofs.YtjgooecohepkoaaGreatDoor
open Go Go.Abs
set_option linter.unusedSimpArgs false
set_option maxHeartbeats 2000000
/-! ### Right values that are no tables -/
def len0 (c : List (List UInt8)) (r : List (List Val)) : Prop := c.length + r.length = 0
instance (c : List (List UInt8)) (r : List (List Val)) : Decidable (len0 c r) := inferInstanceAs (Decidable (_ = _))
def rightF : Val → Bool
  | .mk k s dn ds n c r =>
    if k = 0 then decide (s = [] ∧ dn = 0 ∧ ds = 0 ∧ c.length + r.length = 0) && (decide (0 ≤ n) && decide (n ≤ 99))
    else if k = 1 then decide (n = 0 ∧ dn = 0 ∧ ds = 0 ∧ c.length + r.length = 0) && plainR s
    else if k = 2 then decide (n = 0 ∧ s = [] ∧ c.length + r.length = 0) && decR dn ds
    else if k = 3 then decide (s = [] ∧ dn = 0 ∧ ds = 0 ∧ c.length + r.length = 0) && (decide (0 ≤ n) && decide (n ≤ 3652058))
    else if k = 4 then decide (s = [] ∧ dn = 0 ∧ ds = 0 ∧ c.length + r.length = 0) && (n == 0 || n == 1)
    else false
section
variable (kd : Int) (s : List UInt8) (dn ds num : Int) (cols : List (List UInt8)) (rows : List (List Val))
theorem f146_ok : FnOK sys 146 [.agg (encV (.mk kd s dn ds num cols rows))] [] (.v (.bool (decide (s = [] ∧ dn = 0 ∧ ds = 0 ∧ cols.length + rows.length = 0) && (decide (0 ≤ num) && decide (num ≤ 99))))) [] := by
  refine FnOK.intro Tryz.f146 (by kernel_rfl) rfl rfl [.tmp 2] rfl 0 rfl (Nat.le_of_ble_eq_true rfl) rfl rfl fun E hN h0 => W.code (N := 15) [1] hN ?_
  have h := f147_N kd s dn ds num cols rows
  obtain ⟨q, hq⟩ : ∃ q, decide (s = [] ∧ dn = 0 ∧ ds = 0 ∧ cols.length + rows.length = 0) = q := ⟨_, rfl⟩
  rw [hq] at h ⊢
  simp only [encV] at h ⊢
  repeat (first | refine st_end rfl ?_ | ((first | refine st1 fun K k => ?_ | refine st2 fun K k => ?_ | refine st3 rfl fun K k => ?_ | refine st4 fun K k => ?_); simp only [go_sem]; refine k _ _ _ _ _ _ ?_; clear k K))
  (first | refine st1 fun K k => ?_ | refine st3 rfl fun K k => ?_); simp only [go_sem]; refine callP (h) ?_; refine k _ _ _ _ _ _ ?_; clear k K
  repeat' (first | refine st_end rfl ?_ | ((first | refine st1 fun K k => ?_ | refine st2 fun K k => ?_ | refine st3 rfl fun K k => ?_ | refine st4 fun K k => ?_); simp only [go_sem]; first | (refine k _ _ _ _ _ _ ?_; clear k K) | (refine ⟨fun _ => ?_, fun _ => ?_⟩ <;> (try simp only [go_sem]) <;> (refine k _ _ _ _ _ _ ?_; clear k K)) | fail))
  all_goals
    refine Done.t1 ?_
    simp only [go_sem]
    simp_all <;> omega
theorem f155_ok : FnOK sys 155 [.agg (encV (.mk kd s dn ds num cols rows))] [] (.v (.bool (decide (s = [] ∧ dn = 0 ∧ ds = 0 ∧ cols.length + rows.length = 0) && (decide (0 ≤ num) && decide (num ≤ 3652058))))) [] := by
  refine FnOK.intro Tryz.f155 (by kernel_rfl) rfl rfl [.tmp 2] rfl 0 rfl (Nat.le_of_ble_eq_true rfl) rfl rfl fun E hN h0 => W.code (N := 15) [1] hN ?_
  have h := f147_N kd s dn ds num cols rows
  obtain ⟨q, hq⟩ : ∃ q, decide (s = [] ∧ dn = 0 ∧ ds = 0 ∧ cols.length + rows.length = 0) = q := ⟨_, rfl⟩
  rw [hq] at h ⊢
  simp only [encV] at h ⊢
  repeat (first | refine st_end rfl ?_ | ((first | refine st1 fun K k => ?_ | refine st2 fun K k => ?_ | refine st3 rfl fun K k => ?_ | refine st4 fun K k => ?_); simp only [go_sem]; refine k _ _ _ _ _ _ ?_; clear k K))
  (first | refine st1 fun K k => ?_ | refine st3 rfl fun K k => ?_); simp only [go_sem]; refine callP (h) ?_; refine k _ _ _ _ _ _ ?_; clear k K
  repeat' (first | refine st_end rfl ?_ | ((first | refine st1 fun K k => ?_ | refine st2 fun K k => ?_ | refine st3 rfl fun K k => ?_ | refine st4 fun K k => ?_); simp only [go_sem]; first | (refine k _ _ _ _ _ _ ?_; clear k K) | (refine ⟨fun _ => ?_, fun _ => ?_⟩ <;> (try simp only [go_sem]) <;> (refine k _ _ _ _ _ _ ?_; clear k K)) | fail))
  all_goals
    refine Done.t1 ?_
    simp only [go_sem]
    simp_all <;> omega
theorem f156_ok : FnOK sys 156 [.agg (encV (.mk kd s dn ds num cols rows))] [] (.v (.bool (decide (s = [] ∧ dn = 0 ∧ ds = 0 ∧ cols.length + rows.length = 0) && (num == 0 || num == 1)))) [] := by
  refine FnOK.intro Tryz.f156 (by kernel_rfl) rfl rfl [.tmp 2] rfl 0 rfl (Nat.le_of_ble_eq_true rfl) rfl rfl fun E hN h0 => W.code (N := 15) [1] hN ?_
  have h := f147_N kd s dn ds num cols rows
  obtain ⟨q, hq⟩ : ∃ q, decide (s = [] ∧ dn = 0 ∧ ds = 0 ∧ cols.length + rows.length = 0) = q := ⟨_, rfl⟩
  rw [hq] at h ⊢
  simp only [encV] at h ⊢
  repeat (first | refine st_end rfl ?_ | ((first | refine st1 fun K k => ?_ | refine st2 fun K k => ?_ | refine st3 rfl fun K k => ?_ | refine st4 fun K k => ?_); simp only [go_sem]; refine k _ _ _ _ _ _ ?_; clear k K))
  (first | refine st1 fun K k => ?_ | refine st3 rfl fun K k => ?_); simp only [go_sem]; refine callP (h) ?_; refine k _ _ _ _ _ _ ?_; clear k K
  repeat' (first | refine st_end rfl ?_ | ((first | refine st1 fun K k => ?_ | refine st2 fun K k => ?_ | refine st3 rfl fun K k => ?_ | refine st4 fun K k => ?_); simp only [go_sem]; first | (refine k _ _ _ _ _ _ ?_; clear k K) | (refine ⟨fun _ => ?_, fun _ => ?_⟩ <;> (try simp only [go_sem]) <;> (refine k _ _ _ _ _ _ ?_; clear k K)) | fail))
  all_goals
    refine Done.t1 ?_
    simp only [go_sem]
    simp_all <;> omega
theorem f149_ok : FnOK sys 149 [.agg (encV (.mk kd s dn ds num cols rows))] [] (.v (.bool (decide (num = 0 ∧ dn = 0 ∧ ds = 0 ∧ cols.length + rows.length = 0) && plainR s))) [] := by
  refine FnOK.intro Tryz.f149 (by kernel_rfl) rfl rfl [.tmp 2] rfl 0 rfl (Nat.le_of_ble_eq_true rfl) rfl rfl fun E hN h0 => W.code (N := 10) [1] hN ?_
  have h := f147_S kd s dn ds num cols rows
  obtain ⟨q, hq⟩ : ∃ q, decide (num = 0 ∧ dn = 0 ∧ ds = 0 ∧ cols.length + rows.length = 0) = q := ⟨_, rfl⟩
  rw [hq] at h ⊢
  simp only [encV] at h ⊢
  repeat (first | refine st_end rfl ?_ | ((first | refine st1 fun K k => ?_ | refine st2 fun K k => ?_ | refine st3 rfl fun K k => ?_ | refine st4 fun K k => ?_); simp only [go_sem]; refine k _ _ _ _ _ _ ?_; clear k K))
  (first | refine st1 fun K k => ?_ | refine st3 rfl fun K k => ?_); simp only [go_sem]; refine callP (h) ?_; refine k _ _ _ _ _ _ ?_; clear k K
  cases q with
  | false =>
    repeat (first | refine st_end rfl ?_ | ((first | refine st1 fun K k => ?_ | refine st2 fun K k => ?_ | refine st3 rfl fun K k => ?_ | refine st4 fun K k => ?_); simp only [go_sem]; refine k _ _ _ _ _ _ ?_; clear k K))
    refine Done.t1 ?_
    simp only [go_sem, Bool.false_and]
  | true =>
    repeat (first | refine st_end rfl ?_ | ((first | refine st1 fun K k => ?_ | refine st2 fun K k => ?_ | refine st3 rfl fun K k => ?_ | refine st4 fun K k => ?_); simp only [go_sem]; refine k _ _ _ _ _ _ ?_; clear k K))
    (first | refine st1 fun K k => ?_ | refine st3 rfl fun K k => ?_); simp only [go_sem]; refine callP (f150_ok s) ?_; refine k _ _ _ _ _ _ ?_; clear k K
    repeat (first | refine st_end rfl ?_ | ((first | refine st1 fun K k => ?_ | refine st2 fun K k => ?_ | refine st3 rfl fun K k => ?_ | refine st4 fun K k => ?_); simp only [go_sem]; refine k _ _ _ _ _ _ ?_; clear k K))
    refine Done.t1 ?_
    simp only [go_sem]
theorem f152_ok : FnOK sys 152 [.agg (encV (.mk kd s dn ds num cols rows))] [] (.v (.bool (decide (num = 0 ∧ s = [] ∧ cols.length + rows.length = 0) && decR dn ds))) [] := by
  refine FnOK.intro Tryz.f152 (by kernel_rfl) rfl rfl [.tmp 2] rfl 0 rfl (Nat.le_of_ble_eq_true rfl) rfl rfl fun E hN h0 => W.code (N := 10) [1] hN ?_
  have h := f147_D kd s dn ds num cols rows
  obtain ⟨q, hq⟩ : ∃ q, decide (num = 0 ∧ s = [] ∧ cols.length + rows.length = 0) = q := ⟨_, rfl⟩
  rw [hq] at h ⊢
  simp only [encV] at h ⊢
  repeat (first | refine st_end rfl ?_ | ((first | refine st1 fun K k => ?_ | refine st2 fun K k => ?_ | refine st3 rfl fun K k => ?_ | refine st4 fun K k => ?_); simp only [go_sem]; refine k _ _ _ _ _ _ ?_; clear k K))
  (first | refine st1 fun K k => ?_ | refine st3 rfl fun K k => ?_); simp only [go_sem]; refine callP (h) ?_; refine k _ _ _ _ _ _ ?_; clear k K
  cases q with
  | false =>
    repeat (first | refine st_end rfl ?_ | ((first | refine st1 fun K k => ?_ | refine st2 fun K k => ?_ | refine st3 rfl fun K k => ?_ | refine st4 fun K k => ?_); simp only [go_sem]; refine k _ _ _ _ _ _ ?_; clear k K))
    refine Done.t1 ?_
    simp only [go_sem, Bool.false_and]
  | true =>
    repeat (first | refine st_end rfl ?_ | ((first | refine st1 fun K k => ?_ | refine st2 fun K k => ?_ | refine st3 rfl fun K k => ?_ | refine st4 fun K k => ?_); simp only [go_sem]; refine k _ _ _ _ _ _ ?_; clear k K))
    (first | refine st1 fun K k => ?_ | refine st3 rfl fun K k => ?_); simp only [go_sem]; refine callP (f153_ok dn ds) ?_; refine k _ _ _ _ _ _ ?_; clear k K
    repeat (first | refine st_end rfl ?_ | ((first | refine st1 fun K k => ?_ | refine st2 fun K k => ?_ | refine st3 rfl fun K k => ?_ | refine st4 fun K k => ?_); simp only [go_sem]; refine k _ _ _ _ _ _ ?_; clear k K))
    refine Done.t1 ?_
    simp only [go_sem]
end
/-- The classes. -/
def classM : List (Value × D) :=
  let f (n : Nat) : D := .v (.func (.func n) #[] #[])
  [(.int .i64 0, .agg [f 146, f 148]), (.int .i64 1, .agg [f 149, f 151]), (.int .i64 2, .agg [f 152, f 154]), (.int .i64 3, .agg [f 155, f 148]), (.int .i64 4, .agg [f 156, f 148]), (.int .i64 5, .agg [f 157, f 159])]
theorem f102_ok : FnOK sys 102 [] [] (.mp 0) [(0, .mp classM)] := xg_fn (S := []) (n := 0) (n' := 1) (by kernel_rfl)
end Go.Proofs.YtjgooecohepkoaaGreatDoor
