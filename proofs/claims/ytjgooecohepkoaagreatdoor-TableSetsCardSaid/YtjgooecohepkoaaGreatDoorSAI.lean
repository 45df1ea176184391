/- Contracts of the functions that the statement reaches. -/
import Derived.Test.YtjgooecohepkoaaGreatDoorSAH
import Derived.Test.YtjgooecohepkoaaGreatDoorSAB
set_option linter.unusedVariables false
set_option linter.unusedSimpArgs false
namespace Go.Proofs.YtjgooecohepkoaaGreatDoor
open Go Go.Abs
set_option linter.unusedSimpArgs false
set_option maxHeartbeats 2000000
theorem valB_lt : ∀ (l : List UInt8), valB l < 256 ^ l.length := by
  have key : ∀ (r l : List UInt8), l = r.reverse → valB l < 256 ^ l.length := by
    intro r
    induction r with
    | nil => intro l h; subst h; simp [valB]
    | cons c r ih =>
      intro l h
      subst h
      rw [List.reverse_cons, valB_snoc]
      have := ih _ rfl
      have hc : c.toNat < 256 := c.toNat_lt
      simp only [List.length_append, List.length_cons, List.length_nil, Nat.zero_add, Nat.pow_succ]
      omega
  intro l
  exact key l.reverse l (by simp)
theorem foldl_val : ∀ (r : List UInt8) (a : Nat), r.foldl (fun a b => a * 256 + b.toNat) a = a * 256 ^ r.length + valB r := by
  intro r
  induction r with
  | nil => intro a; simp [valB]
  | cons d r ih =>
    intro a
    have h1 := ih (a * 256 + d.toNat)
    have h2 := ih (0 * 256 + d.toNat)
    simp only [List.foldl_cons, valB, List.length_cons, Nat.pow_succ] at h1 h2 ⊢
    have e : a * 256 * 256 ^ r.length = a * (256 ^ r.length * 256) := by rw [Nat.mul_assoc, Nat.mul_comm 256]
    rw [h1, h2, Nat.add_mul, Nat.add_mul, e]
    omega
theorem valB_cons (c : UInt8) (r : List UInt8) : valB (c :: r) = c.toNat * 256 ^ r.length + valB r := by
  simp only [valB, List.foldl_cons]
  rw [foldl_val]
  simp [valB]
theorem valB_append (a b : List UInt8) : valB (a ++ b) = valB a * 256 ^ b.length + valB b := by
  simp only [valB, List.foldl_append]
  rw [foldl_val]
  rfl
theorem valB_take_le (l : List UInt8) (k : Nat) : valB (l.take k) ≤ valB l := by
  have h : valB l = valB (l.take k ++ l.drop k) := by rw [List.take_append_drop]
  rw [h, valB_append]
  have hp : 0 < 256 ^ (l.drop k).length := Nat.pow_pos (by omega)
  have := Nat.le_mul_of_pos_right (valB (l.take k)) hp
  omega
theorem natB_len_iff (m k : Nat) : (natB m).length ≤ k ↔ m < 256 ^ k := by
  constructor
  · intro h
    rcases Nat.lt_or_ge m (256 ^ k) with h1 | h1
    · exact h1
    · have := natB_len_ge k m h1; omega
  · exact natB_len k m
theorem natB_head {m : Nat} {c : UInt8} {r : List UInt8} (h : natB m = c :: r) : c.toNat = m / 256 ^ r.length := by
  have h1 := valB_natB m
  rw [h, valB_cons] at h1
  have h2 := valB_lt r
  have hp : 0 < 256 ^ r.length := Nat.pow_pos (by omega)
  rw [← h1]
  rw [Nat.add_comm, Nat.add_mul_div_right _ _ hp, Nat.div_eq_of_lt h2, Nat.zero_add]
theorem take_valB {l : List UInt8} {i : Nat} {c : UInt8} (h : l[i]? = some c) : valB (l.take (i + 1)) = valB (l.take i) * 256 + c.toNat := by
  rw [List.take_add_one, h]
  exact valB_snoc _ _
theorem f169_ok (m : Nat) (hm : (natB m).length ≤ 1000000) : FnOK sys 169 [.s (natB m)] [] (if m < 9223372036854775808 then .tup [.v (.int .i64 m), .v (.bool true)] else .tup [.v (.int .i64 0), .v (.bool false)]) [] := by
  refine FnOK.intro Tryz.f169 (by kernel_rfl) rfl rfl [.tmp 2, .tmp 3] rfl 0 rfl (Nat.le_of_ble_eq_true rfl) rfl rfl fun E hN h0 => W.code (N := 35) [] hN ?_
  have h205 := f205_ok (natB m) hm
  rw [canon_natB] at h205
  obtain ⟨l, hl⟩ : ∃ l, natB m = l := ⟨_, rfl⟩
  have hlen8 := natB_len_iff m 8
  have hlen7 := natB_len_iff m 7
  rw [hl] at h205 hlen8 hlen7 hm ⊢
  repeat (first | refine st_end rfl ?_ | ((first | refine st1 fun K k => ?_ | refine st2 fun K k => ?_ | refine st3 rfl fun K k => ?_ | refine st4 fun K k => ?_); simp only [go_sem]; refine k _ _ _ _ _ _ ?_; clear k K))
  (first | refine st1 fun K k => ?_ | refine st3 rfl fun K k => ?_); simp only [go_sem]; refine callP (h205) ?_; refine k _ _ _ _ _ _ ?_; clear k K
  by_cases h8 : (8 : Int) < l.length
  · have hbig : ¬ m < 9223372036854775808 := by
      intro h
      have := hlen8.2 (by omega)
      omega
    repeat (first | refine st_end rfl ?_ | ((first | refine st1 fun K k => ?_ | refine st2 fun K k => ?_ | refine st3 rfl fun K k => ?_ | refine st4 fun K k => ?_); simp only [go_sem, h8, decide_true]; refine k _ _ _ _ _ _ ?_; clear k K))
    refine Done.t2 ?_
    simp only [go_sem, hbig]
  · have hok : (m < 9223372036854775808) ∨ (l.length = 8 ∧ ∃ c, l[0]? = some c ∧ 127 < c.toNat) := by
      rcases Nat.lt_or_ge m 9223372036854775808 with h | h
      · exact .inl h
      · refine .inr ?_
        have h7 : ¬ l.length ≤ 7 := fun h' => by have := hlen7.1 h'; omega
        have h88 : l.length = 8 := by omega
        refine ⟨h88, ?_⟩
        cases hcl : l with
        | nil => rw [hcl] at h88; simp at h88
        | cons c r =>
          refine ⟨c, rfl, ?_⟩
          rw [hcl] at hl h88
          have hh := natB_head hl
          have hr7 : r.length = 7 := by simpa using h88
          rw [hr7] at hh
          rw [hh, Nat.lt_div_iff_mul_lt (by decide)]
          omega
    have hno : m < 9223372036854775808 → l.length = 8 → ∃ c, l[0]? = some c ∧ ¬ 127 < c.toNat := by
      intro hlt h88
      cases hcl : l with
      | nil => rw [hcl] at h88; simp at h88
      | cons c r =>
        refine ⟨c, rfl, ?_⟩
        rw [hcl] at hl h88
        have hh := natB_head hl
        have hr7 : r.length = 7 := by simpa using h88
        rw [hr7] at hh
        rw [hh, Nat.not_lt]
        exact Nat.le_of_lt_succ ((Nat.div_lt_iff_lt_mul (by decide)).2 (by omega))
    rcases Nat.lt_or_ge m 9223372036854775808 with hlt | hge
    case inr =>
      rcases hok with h | ⟨h88, c, hc, hc2⟩
      · omega
      have q1 : ((l.length : Int) == 8) = true := by simp [h88]
      have q2 : (127 : Int) < c.toNat := by omega
      have hbig : ¬ m < 9223372036854775808 := by omega
      repeat (first | refine st_end rfl ?_ | ((first | refine st1 fun K k => ?_ | refine st2 fun K k => ?_ | refine st3 rfl fun K k => ?_ | refine st4 fun K k => ?_); simp only [go_sem, h8, decide_false, q1, hc, q2, decide_true]; refine k _ _ _ _ _ _ ?_; clear k K))
      refine Done.t2 ?_
      simp only [go_sem, hbig]
    have q : (∃ c, ((l.length : Int) == 8) = true ∧ l[0]? = some c ∧ ¬ (127 : Int) < c.toNat) ∨ ((l.length : Int) == 8) = false := by
      by_cases h88 : l.length = 8
      · obtain ⟨c, hc, hc2⟩ := hno hlt h88
        exact .inl ⟨c, by simp [h88], hc, by omega⟩
      · exact .inr (by simp; omega)
    have hval : valB l = m := by rw [← hl]; exact valB_natB m
    rcases q with ⟨c, q1, hc, q2⟩ | q1
    repeat (first | refine st_end rfl ?_ | ((first | refine st1 fun K k => ?_ | refine st2 fun K k => ?_ | refine st3 rfl fun K k => ?_ | refine st4 fun K k => ?_); simp only [go_sem, h8, decide_false, q1, hc, q2]; refine k _ _ _ _ _ _ ?_; clear k K))
    rotate_left
    repeat (first | refine st_end rfl ?_ | ((first | refine st1 fun K k => ?_ | refine st2 fun K k => ?_ | refine st3 rfl fun K k => ?_ | refine st4 fun K k => ?_); simp only [go_sem, h8, decide_false, q1]; refine k _ _ _ _ _ _ ?_; clear k K))
    all_goals
      refine W.loopP (fun i : Nat => ⟨[(0, .s l), (4, .v (.int .i64 (valB (l.take i)))), (5, .v (.int .i64 i))], [], 0, []⟩)
        (fun i => i ≤ l.length) (fun i => l.length - i) 0 (Nat.zero_le _) (Into.le ?_ trivial (Nat.le_refl _) rfl) fun i hi => W.code (N := 35) [] hN ?_
      · simp only [go_sem]
        exact ⟨LeD.refl _, LeD.refl _⟩
      repeat (first | refine st_end rfl ?_ | ((first | refine st1 fun K k => ?_ | refine st2 fun K k => ?_ | refine st3 rfl fun K k => ?_ | refine st4 fun K k => ?_); simp only [go_sem]; refine k _ _ _ _ _ _ ?_; clear k K))
      refine st_cond fun A B a b => ?_; simp only [go_sem]; refine ⟨fun g => a ?_, fun g => b ?_⟩ <;> clear a b A B
      · obtain ⟨c, hc⟩ := getS (l := l) (i := i) (by omega)
        have hv := take_valB hc
        have hle : valB (l.take (i + 1)) ≤ m := by rw [← hval]; exact valB_take_le l (i + 1)
        have w1 : IntKind.wrap .i64 ((valB (l.take i) : Int) * 256) = ((valB (l.take i) * 256 : Nat) : Int) := wrapTo (by omega)
        have w2 : IntKind.wrap .i64 (((valB (l.take i) * 256 : Nat) : Int) + c.toNat) = ((valB (l.take (i + 1)) : Nat) : Int) := wrapTo (by omega)
        have w3 : IntKind.wrap .i64 (c.toNat : Int) = c.toNat := wrapTo (by have := c.toNat_lt; omega)
        have w5 : IntKind.wrap .i64 ((i : Int) + 1) = ((i + 1 : Nat) : Int) := wrapTo (by omega)
        have p8 : (2 : Int) ^ (min (8 : Nat) 64) = 256 := rfl
        repeat (first | refine st_end rfl ?_ | ((first | refine st1 fun K k => ?_ | refine st2 fun K k => ?_ | refine st3 rfl fun K k => ?_ | refine st4 fun K k => ?_); simp only [go_sem, hc, w1, w2, w3, w5, p8]; refine k _ _ _ _ _ _ ?_; clear k K))
        refine ⟨i + 1, by omega, by omega, Into.le ?_ trivial (Nat.le_refl _) rfl⟩
        simp only [go_sem]
      · obtain rfl : i = l.length := by omega
        refine iq Into.refl ?_
        repeat (first | refine st_end rfl ?_ | ((first | refine st1 fun K k => ?_ | refine st2 fun K k => ?_ | refine st3 rfl fun K k => ?_ | refine st4 fun K k => ?_); simp only [go_sem]; refine k _ _ _ _ _ _ ?_; clear k K))
        refine Done.t2 ?_
        simp only [go_sem, hlt, List.take_length, hval]
theorem f206_ok (m k : Nat) (hk : k ≤ 7) (hm : (natB m).length ≤ 1000000) : FnOK sys 206 [.s (natB m), .v (.int .i64 k)] [] (if m < 256 ^ k then .tup [.v (.int .i64 m), .v (.bool true)] else .tup [.v (.int .i64 0), .v (.bool false)]) [] := by
  refine FnOK.intro Tryz.f206 (by kernel_rfl) rfl rfl [.tmp 4, .tmp 5] rfl 0 rfl (Nat.le_of_ble_eq_true rfl) rfl rfl fun E hN h0 => W.code (N := 15) [] hN ?_
  have h205 := f205_ok (natB m) hm
  rw [canon_natB] at h205
  have h169 := f169_ok m hm
  have hiff := natB_len_iff m k
  repeat (first | refine st_end rfl ?_ | ((first | refine st1 fun K k => ?_ | refine st2 fun K k => ?_ | refine st3 rfl fun K k => ?_ | refine st4 fun K k => ?_); simp only [go_sem]; refine k _ _ _ _ _ _ ?_; clear k K))
  (first | refine st1 fun K k => ?_ | refine st3 rfl fun K k => ?_); simp only [go_sem]; refine callP (h205) ?_; refine k _ _ _ _ _ _ ?_; clear k K
  by_cases h : m < 256 ^ k
  · have c1 : ¬ (k : Int) < (natB m).length := by have := hiff.2 h; omega
    have h63 : m < 9223372036854775808 := by
      have : 256 ^ k ≤ 256 ^ 7 := Nat.pow_le_pow_right (by omega) hk
      omega
    rw [if_pos h63] at h169
    repeat (first | refine st_end rfl ?_ | ((first | refine st1 fun K k => ?_ | refine st2 fun K k => ?_ | refine st3 rfl fun K k => ?_ | refine st4 fun K k => ?_); simp only [go_sem, c1, decide_false]; refine k _ _ _ _ _ _ ?_; clear k K))
    (first | refine st1 fun K k => ?_ | refine st3 rfl fun K k => ?_); simp only [go_sem]; refine callP (h169) ?_; refine k _ _ _ _ _ _ ?_; clear k K
    repeat (first | refine st_end rfl ?_ | ((first | refine st1 fun K k => ?_ | refine st2 fun K k => ?_ | refine st3 rfl fun K k => ?_ | refine st4 fun K k => ?_); simp only [go_sem]; refine k _ _ _ _ _ _ ?_; clear k K))
    refine Done.t2 ?_
    simp only [go_sem, h]
  · have c1 : (k : Int) < (natB m).length := by
      have : ¬ (natB m).length ≤ k := fun h' => h (hiff.1 h')
      omega
    repeat (first | refine st_end rfl ?_ | ((first | refine st1 fun K k => ?_ | refine st2 fun K k => ?_ | refine st3 rfl fun K k => ?_ | refine st4 fun K k => ?_); simp only [go_sem, c1, decide_true]; refine k _ _ _ _ _ _ ?_; clear k K))
    refine Done.t2 ?_
    simp only [go_sem, h]
end Go.Proofs.YtjgooecohepkoaaGreatDoor
namespace Go.Proofs.YtjgooecohepkoaaGreatDoor
open Go Go.Abs
set_option linter.unusedSimpArgs false
set_option maxHeartbeats 2000000
theorem natB_short {m : Nat} (h : m < 18446744073709551616) : (natB m).length ≤ 1000000 := by
  have := natB_len 8 m (by omega)
  omega
theorem f171_small (a b : Nat) (ha : a < 72057594037927936) (hb : b < 72057594037927936) : FnOK sys 171 [.s (natB a), .s (natB b)] [] (.s (natB (a + b))) [] := by
  refine FnOK.intro Tryz.f171 (by kernel_rfl) rfl rfl [.tmp 4] rfl 0 rfl (Nat.le_of_ble_eq_true rfl) rfl rfl fun E hN h0 => W.code (N := 83) [] hN ?_
  have h1 := f206_ok a 7 (by omega) (natB_short (by omega))
  have h2 := f206_ok b 7 (by omega) (natB_short (by omega))
  rw [if_pos (by omega)] at h1 h2
  have w1 : IntKind.wrap .i64 ((a : Int) + b) = ((a + b : Nat) : Int) := wrapTo (by omega)
  have h3 := f168_ok ((a + b : Nat) : Int) (by omega)
  rw [Int.toNat_natCast] at h3
  repeat (first | refine st_end rfl ?_ | ((first | refine st1 fun K k => ?_ | refine st2 fun K k => ?_ | refine st3 rfl fun K k => ?_ | refine st4 fun K k => ?_); simp only [go_sem]; refine k _ _ _ _ _ _ ?_; clear k K))
  (first | refine st1 fun K k => ?_ | refine st3 rfl fun K k => ?_); simp only [go_sem]; refine callP (h1) ?_; refine k _ _ _ _ _ _ ?_; clear k K
  repeat (first | refine st_end rfl ?_ | ((first | refine st1 fun K k => ?_ | refine st2 fun K k => ?_ | refine st3 rfl fun K k => ?_ | refine st4 fun K k => ?_); simp only [go_sem]; refine k _ _ _ _ _ _ ?_; clear k K))
  (first | refine st1 fun K k => ?_ | refine st3 rfl fun K k => ?_); simp only [go_sem]; refine callP (h2) ?_; refine k _ _ _ _ _ _ ?_; clear k K
  repeat (first | refine st_end rfl ?_ | ((first | refine st1 fun K k => ?_ | refine st2 fun K k => ?_ | refine st3 rfl fun K k => ?_ | refine st4 fun K k => ?_); simp only [go_sem, w1]; refine k _ _ _ _ _ _ ?_; clear k K))
  (first | refine st1 fun K k => ?_ | refine st3 rfl fun K k => ?_); simp only [go_sem]; refine callP (h3) ?_; refine k _ _ _ _ _ _ ?_; clear k K
  repeat (first | refine st_end rfl ?_ | ((first | refine st1 fun K k => ?_ | refine st2 fun K k => ?_ | refine st3 rfl fun K k => ?_ | refine st4 fun K k => ?_); simp only [go_sem]; refine k _ _ _ _ _ _ ?_; clear k K))
  refine Done.t1 ?_
  simp only [go_sem]
theorem f167_small (a b : Nat) (ha : a < 72057594037927936) (hb : b < 72057594037927936) (h0b : b ≠ 0) : FnOK sys 167 [.s (natB a), .s (natB b)] [] (.tup [.s (natB (a / b)), .s (natB (a % b)), .v (.bool true)]) [] := by
  refine FnOK.intro Tryz.f167 (by kernel_rfl) rfl rfl [.tmp 4, .tmp 5, .tmp 6] rfl 0 rfl (Nat.le_of_ble_eq_true rfl) rfl rfl fun E hN h0 => W.code (N := 87) [] hN ?_
  have h1 := f206_ok a 7 (by omega) (natB_short (by omega))
  have h2 := f206_ok b 7 (by omega) (natB_short (by omega))
  rw [if_pos (by omega)] at h1 h2
  have h5 := f205_ok (natB b) (natB_short (by omega))
  rw [canon_natB] at h5
  have hlt : a / b < 72057594037927936 := Nat.lt_of_le_of_lt (Nat.div_le_self a b) ha
  have hlt2 : a % b < 72057594037927936 := Nat.lt_of_le_of_lt (Nat.mod_le a b) ha
  have w1 : IntKind.wrap .i64 ((a : Int).tdiv b) = ((a / b : Nat) : Int) := by
    have hq : (a : Int).tdiv b = ((a / b : Nat) : Int) := rfl
    rw [hq]
    generalize a / b = q at hlt
    exact wrap64 _ (by omega) (by omega)
  have w2 : (a : Int).tmod b = ((a % b : Nat) : Int) := rfl
  have h3 := f168_ok ((a / b : Nat) : Int) (by omega)
  have h4 := f168_ok ((a % b : Nat) : Int) (by omega)
  rw [Int.toNat_natCast] at h3 h4
  have hlen : (((natB b).length : Int) == 0) = false := by
    have : (natB b).length ≠ 0 := fun h => h0b (natB_nil (List.eq_nil_of_length_eq_zero h))
    simpa using this
  have hne : ¬ (b : Int) = 0 := by omega
  repeat (first | refine st_end rfl ?_ | ((first | refine st1 fun K k => ?_ | refine st2 fun K k => ?_ | refine st3 rfl fun K k => ?_ | refine st4 fun K k => ?_); simp only [go_sem]; refine k _ _ _ _ _ _ ?_; clear k K))
  (first | refine st1 fun K k => ?_ | refine st3 rfl fun K k => ?_); simp only [go_sem]; refine callP (h5) ?_; refine k _ _ _ _ _ _ ?_; clear k K
  repeat (first | refine st_end rfl ?_ | ((first | refine st1 fun K k => ?_ | refine st2 fun K k => ?_ | refine st3 rfl fun K k => ?_ | refine st4 fun K k => ?_); simp only [go_sem, hlen]; refine k _ _ _ _ _ _ ?_; clear k K))
  (first | refine st1 fun K k => ?_ | refine st3 rfl fun K k => ?_); simp only [go_sem]; refine callP (h1) ?_; refine k _ _ _ _ _ _ ?_; clear k K
  repeat (first | refine st_end rfl ?_ | ((first | refine st1 fun K k => ?_ | refine st2 fun K k => ?_ | refine st3 rfl fun K k => ?_ | refine st4 fun K k => ?_); simp only [go_sem]; refine k _ _ _ _ _ _ ?_; clear k K))
  (first | refine st1 fun K k => ?_ | refine st3 rfl fun K k => ?_); simp only [go_sem]; refine callP (h2) ?_; refine k _ _ _ _ _ _ ?_; clear k K
  repeat (first | refine st_end rfl ?_ | ((first | refine st1 fun K k => ?_ | refine st2 fun K k => ?_ | refine st3 rfl fun K k => ?_ | refine st4 fun K k => ?_); simp only [go_sem, w1, w2, hne]; refine k _ _ _ _ _ _ ?_; clear k K))
  (first | refine st1 fun K k => ?_ | refine st3 rfl fun K k => ?_); simp only [go_sem]; refine callP (h3) ?_; refine k _ _ _ _ _ _ ?_; clear k K
  repeat (first | refine st_end rfl ?_ | ((first | refine st1 fun K k => ?_ | refine st2 fun K k => ?_ | refine st3 rfl fun K k => ?_ | refine st4 fun K k => ?_); simp only [go_sem, w1, w2, hne]; refine k _ _ _ _ _ _ ?_; clear k K))
  (first | refine st1 fun K k => ?_ | refine st3 rfl fun K k => ?_); simp only [go_sem]; refine callP (h4) ?_; refine k _ _ _ _ _ _ ?_; clear k K
  repeat (first | refine st_end rfl ?_ | ((first | refine st1 fun K k => ?_ | refine st2 fun K k => ?_ | refine st3 rfl fun K k => ?_ | refine st4 fun K k => ?_); simp only [go_sem]; refine k _ _ _ _ _ _ ?_; clear k K))
  refine Done.mk (.inr rfl) Into.refl rfl [] 0 rfl ?_ trivial rfl
  simp only [go_sem]
theorem f174_ok (n : Int) (h1 : -72057594037927935 ≤ n) (h2 : n ≤ 72057594037927935) : FnOK sys 174 [.v (.int .i64 n)] [] (.s (natB n.natAbs)) [] := by
  refine FnOK.intro Tryz.f174 (by kernel_rfl) rfl rfl [.tmp 2] rfl 0 rfl (Nat.le_of_ble_eq_true rfl) rfl rfl fun E hN h0 => W.code (N := 13) [] hN ?_
  by_cases hn : 0 ≤ n
  · have h3 := f168_ok n (by omega)
    have e : n.toNat = n.natAbs := by omega
    rw [e] at h3
    repeat (first | refine st_end rfl ?_ | ((first | refine st1 fun K k => ?_ | refine st2 fun K k => ?_ | refine st3 rfl fun K k => ?_ | refine st4 fun K k => ?_); simp only [go_sem, hn, ge_iff_le, decide_true]; refine k _ _ _ _ _ _ ?_; clear k K))
    (first | refine st1 fun K k => ?_ | refine st3 rfl fun K k => ?_); simp only [go_sem]; refine callP (h3) ?_; refine k _ _ _ _ _ _ ?_; clear k K
    repeat (first | refine st_end rfl ?_ | ((first | refine st1 fun K k => ?_ | refine st2 fun K k => ?_ | refine st3 rfl fun K k => ?_ | refine st4 fun K k => ?_); simp only [go_sem]; refine k _ _ _ _ _ _ ?_; clear k K))
    refine Done.t1 ?_
    simp only [go_sem]
  · have w1 : IntKind.wrap .i64 (n + 1) = n + 1 := wrapTo (by omega)
    have w2 : IntKind.wrap .i64 (0 - (n + 1)) = -(n + 1) := wrapTo (by omega)
    have h3 := f168_ok (-(n + 1)) (by omega)
    have h4 := f168_ok 1 (by omega)
    have h5 := f171_small (-(n + 1)).toNat (1 : Int).toNat (by omega) (by omega)
    have e : (-(n + 1)).toNat + (1 : Int).toNat = n.natAbs := by omega
    rw [e] at h5
    repeat (first | refine st_end rfl ?_ | ((first | refine st1 fun K k => ?_ | refine st2 fun K k => ?_ | refine st3 rfl fun K k => ?_ | refine st4 fun K k => ?_); simp only [go_sem, hn, ge_iff_le, decide_false, w1, w2]; refine k _ _ _ _ _ _ ?_; clear k K))
    (first | refine st1 fun K k => ?_ | refine st3 rfl fun K k => ?_); simp only [go_sem]; refine callP (h3) ?_; refine k _ _ _ _ _ _ ?_; clear k K
    repeat (first | refine st_end rfl ?_ | ((first | refine st1 fun K k => ?_ | refine st2 fun K k => ?_ | refine st3 rfl fun K k => ?_ | refine st4 fun K k => ?_); simp only [go_sem]; refine k _ _ _ _ _ _ ?_; clear k K))
    (first | refine st1 fun K k => ?_ | refine st3 rfl fun K k => ?_); simp only [go_sem]; refine callP (h4) ?_; refine k _ _ _ _ _ _ ?_; clear k K
    repeat (first | refine st_end rfl ?_ | ((first | refine st1 fun K k => ?_ | refine st2 fun K k => ?_ | refine st3 rfl fun K k => ?_ | refine st4 fun K k => ?_); simp only [go_sem]; refine k _ _ _ _ _ _ ?_; clear k K))
    (first | refine st1 fun K k => ?_ | refine st3 rfl fun K k => ?_); simp only [go_sem]; refine callP (h5) ?_; refine k _ _ _ _ _ _ ?_; clear k K
    repeat (first | refine st_end rfl ?_ | ((first | refine st1 fun K k => ?_ | refine st2 fun K k => ?_ | refine st3 rfl fun K k => ?_ | refine st4 fun K k => ?_); simp only [go_sem]; refine k _ _ _ _ _ _ ?_; clear k K))
    refine Done.t1 ?_
    simp only [go_sem]
/-- Zeros at the end left out. -/
def trimN : Nat → Nat → Nat × Nat
  | 0, n => (n, 0)
  | s + 1, n => if n % 10 = 0 then trimN s (n / 10) else (n, s + 1)
def fitD (neg : Bool) (n s : Nat) : D :=
  let p := trimN s n
  if p.1 ≤ 1000000000000000 ∧ p.2 ≤ 6 then .tup [.agg [.v (.int .i64 (if neg then -(p.1 : Int) else p.1)), .v (.int .i64 p.2)], .v (.bool true)]
  else .tup [.agg [.v (.int .i64 0), .v (.int .i64 0)], .v (.bool false)]
theorem trimN_le : ∀ (s n : Nat), (trimN s n).1 ≤ n ∧ (trimN s n).2 ≤ s
  | 0, n => ⟨Nat.le_refl _, Nat.le_refl _⟩
  | s + 1, n => by
    unfold trimN
    split
    · have := trimN_le s (n / 10)
      exact ⟨by omega, by omega⟩
    · exact ⟨Nat.le_refl _, Nat.le_refl _⟩
theorem f111_small (neg : Bool) (n s : Nat) (hn : n < 72057594037927936) (hs : s ≤ 1000) : FnOK sys 111 [.agg [.v (.bool neg), .s (natB n), .v (.int .i64 s)]] [] (fitD neg n s) [] := by
  refine FnOK.intro Tryz.f111 (by kernel_rfl) rfl rfl [.cell 2 31, .tmp 3] rfl 0 rfl (Nat.le_of_ble_eq_true rfl) rfl rfl fun E hN h0 => W.code (N := 55) [] hN ?_
  repeat (first | refine st_end rfl ?_ | ((first | refine st1 fun K k => ?_ | refine st2 fun K k => ?_ | refine st3 rfl fun K k => ?_ | refine st4 fun K k => ?_); simp only [go_sem]; refine k _ _ _ _ _ _ ?_; clear k K))
  refine W.loopP (fun p : Nat × Nat => ⟨[(1, .ref 0 0), (2, .ref 1 0), (3, .v (.bool false))], [(0, .box [.v (.bool neg), .s (natB p.1), .v (.int .i64 p.2)]), (1, .box [.v (.int .i64 0), .v (.int .i64 0)])], 2, []⟩)
    (fun p => trimN p.2 p.1 = trimN s n ∧ p.1 ≤ n ∧ p.2 ≤ s) (fun p => p.2) (n, s) ⟨rfl, Nat.le_refl _, Nat.le_refl _⟩ (Into.le ?_ ?_ (Nat.le_refl _) rfl) fun p hp => W.code (N := 55) [] hN ?_
  · simp only [go_sem]
  · simp only [go_sem]
  obtain ⟨m, k0⟩ := p
  obtain ⟨p1, p2, p3⟩ := hp
  simp only at p1 p2 p3
  have h169 := f169_ok m (natB_short (by omega))
  rw [if_pos (by omega)] at h169
  have h10 := f168_ok 10 (by omega)
  have h167 := f167_small m (10 : Int).toNat (by omega) (by decide) (by decide)
  have e10 : (10 : Int).toNat = 10 := rfl
  rw [e10] at h167 h10
  rcases Nat.eq_zero_or_pos k0 with hk | hk
  · have ht : trimN s n = (m, k0) := by rw [← p1, hk]; rfl
    have c0 : ¬ (0 : Int) < k0 := by omega
    repeat (first | refine st_end rfl ?_ | ((first | refine st1 fun K k => ?_ | refine st2 fun K k => ?_ | refine st3 rfl fun K k => ?_ | refine st4 fun K k => ?_); simp only [go_sem, c0, decide_false]; refine k _ _ _ _ _ _ ?_; clear k K))
    refine iq Into.refl ?_
    repeat (first | refine st_end rfl ?_ | ((first | refine st1 fun K k => ?_ | refine st2 fun K k => ?_ | refine st3 rfl fun K k => ?_ | refine st4 fun K k => ?_); simp only [go_sem]; refine k _ _ _ _ _ _ ?_; clear k K))
    (first | refine st1 fun K k => ?_ | refine st3 rfl fun K k => ?_); simp only [go_sem]; refine callP (h169) ?_; refine k _ _ _ _ _ _ ?_; clear k K
    by_cases hb : (1000000000000000 : Int) < m
    · repeat (first | refine st_end rfl ?_ | ((first | refine st1 fun K k => ?_ | refine st2 fun K k => ?_ | refine st3 rfl fun K k => ?_ | refine st4 fun K k => ?_); simp only [go_sem, hb, decide_true]; refine k _ _ _ _ _ _ ?_; clear k K))
      refine Done.mk (.inr rfl) Into.refl ?_ [] 0 ?_ ?_ ?_ ?_
      · rfl
      · rfl
      · simp only [go_sem, fitD, ht, show ¬ m ≤ 1000000000000000 by omega, false_and, if_false]
      · trivial
      · rfl
    by_cases hk6 : (6 : Int) < k0
    · repeat (first | refine st_end rfl ?_ | ((first | refine st1 fun K k => ?_ | refine st2 fun K k => ?_ | refine st3 rfl fun K k => ?_ | refine st4 fun K k => ?_); simp only [go_sem, hb, hk6, decide_true, decide_false]; refine k _ _ _ _ _ _ ?_; clear k K))
      refine Done.mk (.inr rfl) Into.refl ?_ [] 0 ?_ ?_ ?_ ?_
      · rfl
      · rfl
      · simp only [go_sem, fitD, ht, show ¬ k0 ≤ 6 by omega, and_false, if_false]
      · trivial
      · rfl
    have w0 : IntKind.wrap .i64 (0 - (m : Int)) = -(m : Int) := wrapTo (by omega)
    cases neg with
    | true =>
      repeat (first | refine st_end rfl ?_ | ((first | refine st1 fun K k => ?_ | refine st2 fun K k => ?_ | refine st3 rfl fun K k => ?_ | refine st4 fun K k => ?_); simp only [go_sem, hb, hk6, decide_false, w0]; refine k _ _ _ _ _ _ ?_; clear k K))
      refine Done.mk (.inr rfl) Into.refl ?_ [] 0 ?_ ?_ ?_ ?_
      · rfl
      · rfl
      · simp only [go_sem, fitD, ht, show m ≤ 1000000000000000 by omega, show k0 ≤ 6 by omega, if_true, and_self]
      · trivial
      · rfl
    | false =>
      repeat (first | refine st_end rfl ?_ | ((first | refine st1 fun K k => ?_ | refine st2 fun K k => ?_ | refine st3 rfl fun K k => ?_ | refine st4 fun K k => ?_); simp only [go_sem, hb, hk6, decide_false, w0]; refine k _ _ _ _ _ _ ?_; clear k K))
      refine Done.mk (.inr rfl) Into.refl ?_ [] 0 ?_ ?_ ?_ ?_
      · rfl
      · rfl
      · simp only [go_sem, fitD, ht, show m ≤ 1000000000000000 by omega, show k0 ≤ 6 by omega, if_true, and_self, Bool.false_eq_true, if_false]
      · trivial
      · rfl
  · have c0 : (0 : Int) < k0 := by omega
    have w1 : IntKind.wrap .i64 ((k0 : Int) - 1) = ((k0 - 1 : Nat) : Int) := wrapTo (by omega)
    repeat (first | refine st_end rfl ?_ | ((first | refine st1 fun K k => ?_ | refine st2 fun K k => ?_ | refine st3 rfl fun K k => ?_ | refine st4 fun K k => ?_); simp only [go_sem, c0, decide_true]; refine k _ _ _ _ _ _ ?_; clear k K))
    (first | refine st1 fun K k => ?_ | refine st3 rfl fun K k => ?_); simp only [go_sem]; refine callP (h10) ?_; refine k _ _ _ _ _ _ ?_; clear k K
    repeat (first | refine st_end rfl ?_ | ((first | refine st1 fun K k => ?_ | refine st2 fun K k => ?_ | refine st3 rfl fun K k => ?_ | refine st4 fun K k => ?_); simp only [go_sem]; refine k _ _ _ _ _ _ ?_; clear k K))
    (first | refine st1 fun K k => ?_ | refine st3 rfl fun K k => ?_); simp only [go_sem]; refine callP (h167) ?_; refine k _ _ _ _ _ _ ?_; clear k K
    repeat (first | refine st_end rfl ?_ | ((first | refine st1 fun K k => ?_ | refine st2 fun K k => ?_ | refine st3 rfl fun K k => ?_ | refine st4 fun K k => ?_); simp only [go_sem]; refine k _ _ _ _ _ _ ?_; clear k K))
    by_cases h0 : m % 10 = 0
    · have hz : ¬ ((0 : Int) < ((natB (m % 10)).length : Int)) := by rw [h0, natB_zero]; simp
      repeat (first | refine st_end rfl ?_ | ((first | refine st1 fun K k => ?_ | refine st2 fun K k => ?_ | refine st3 rfl fun K k => ?_ | refine st4 fun K k => ?_); simp only [go_sem, hz, decide_false, w1]; refine k _ _ _ _ _ _ ?_; clear k K))
      refine ⟨(m / 10, k0 - 1), ⟨?_, by simp only; omega, by simp only; omega⟩, by simp only; omega, Into.le ?_ ?_ (Nat.le_refl _) rfl⟩
      · simp only
        rw [← p1]
        obtain ⟨q, rfl⟩ : ∃ q, k0 = q + 1 := ⟨k0 - 1, by omega⟩
        simp only [Nat.add_sub_cancel]
        conv => rhs; unfold trimN
        rw [if_pos h0]
      · simp only [go_sem]
      · simp only [go_sem]
    · have hr : (0 : Int) < (natB (m % 10)).length := by
        have : (natB (m % 10)).length ≠ 0 := fun h => h0 (natB_nil (List.eq_nil_of_length_eq_zero h))
        omega
      have ht : trimN s n = (m, k0) := by
        rw [← p1]
        obtain ⟨q, rfl⟩ : ∃ q, k0 = q + 1 := ⟨k0 - 1, by omega⟩
        unfold trimN
        rw [if_neg h0]
      repeat (first | refine st_end rfl ?_ | ((first | refine st1 fun K k => ?_ | refine st2 fun K k => ?_ | refine st3 rfl fun K k => ?_ | refine st4 fun K k => ?_); simp only [go_sem, hr, decide_true]; refine k _ _ _ _ _ _ ?_; clear k K))
      refine iq Into.refl ?_
      repeat (first | refine st_end rfl ?_ | ((first | refine st1 fun K k => ?_ | refine st2 fun K k => ?_ | refine st3 rfl fun K k => ?_ | refine st4 fun K k => ?_); simp only [go_sem]; refine k _ _ _ _ _ _ ?_; clear k K))
      (first | refine st1 fun K k => ?_ | refine st3 rfl fun K k => ?_); simp only [go_sem]; refine callP (h169) ?_; refine k _ _ _ _ _ _ ?_; clear k K
      by_cases hb : (1000000000000000 : Int) < m
      · repeat (first | refine st_end rfl ?_ | ((first | refine st1 fun K k => ?_ | refine st2 fun K k => ?_ | refine st3 rfl fun K k => ?_ | refine st4 fun K k => ?_); simp only [go_sem, hb, decide_true]; refine k _ _ _ _ _ _ ?_; clear k K))
        refine Done.mk (.inr rfl) Into.refl ?_ [] 0 ?_ ?_ ?_ ?_
        · rfl
        · rfl
        · simp only [go_sem, fitD, ht, show ¬ m ≤ 1000000000000000 by omega, false_and, if_false]
        · trivial
        · rfl
      by_cases hk6 : (6 : Int) < k0
      · repeat (first | refine st_end rfl ?_ | ((first | refine st1 fun K k => ?_ | refine st2 fun K k => ?_ | refine st3 rfl fun K k => ?_ | refine st4 fun K k => ?_); simp only [go_sem, hb, hk6, decide_true, decide_false]; refine k _ _ _ _ _ _ ?_; clear k K))
        refine Done.mk (.inr rfl) Into.refl ?_ [] 0 ?_ ?_ ?_ ?_
        · rfl
        · rfl
        · simp only [go_sem, fitD, ht, show ¬ k0 ≤ 6 by omega, and_false, if_false]
        · trivial
        · rfl
      have w0 : IntKind.wrap .i64 (0 - (m : Int)) = -(m : Int) := wrapTo (by omega)
      cases neg with
      | true =>
        repeat (first | refine st_end rfl ?_ | ((first | refine st1 fun K k => ?_ | refine st2 fun K k => ?_ | refine st3 rfl fun K k => ?_ | refine st4 fun K k => ?_); simp only [go_sem, hb, hk6, decide_false, w0]; refine k _ _ _ _ _ _ ?_; clear k K))
        refine Done.mk (.inr rfl) Into.refl ?_ [] 0 ?_ ?_ ?_ ?_
        · rfl
        · rfl
        · simp only [go_sem, fitD, ht, show m ≤ 1000000000000000 by omega, show k0 ≤ 6 by omega, if_true, and_self]
        · trivial
        · rfl
      | false =>
        repeat (first | refine st_end rfl ?_ | ((first | refine st1 fun K k => ?_ | refine st2 fun K k => ?_ | refine st3 rfl fun K k => ?_ | refine st4 fun K k => ?_); simp only [go_sem, hb, hk6, decide_false, w0]; refine k _ _ _ _ _ _ ?_; clear k K))
        refine Done.mk (.inr rfl) Into.refl ?_ [] 0 ?_ ?_ ?_ ?_
        · rfl
        · rfl
        · simp only [go_sem, fitD, ht, show m ≤ 1000000000000000 by omega, show k0 ≤ 6 by omega, if_true, and_self, Bool.false_eq_true, if_false]
        · trivial
        · rfl
end Go.Proofs.YtjgooecohepkoaaGreatDoor
namespace Go.Proofs.YtjgooecohepkoaaGreatDoor
open Go Go.Abs
set_option linter.unusedSimpArgs false
set_option maxHeartbeats 2000000
/-! ### Values that numbers determine: texts and decimals -/
def decM (n : Int) (s : Nat) : Int × Int := ((if n < 0 then -((trimN s n.natAbs).1 : Int) else (trimN s n.natAbs).1), (trimN s n.natAbs).2)
def decD (p : Int × Int) : List D := [.v (.int .i64 p.1), .v (.int .i64 p.2)]
theorem fitD_made (n : Int) (s : Nat) (h1 : -1000000000000000 ≤ n) (h2 : n ≤ 1000000000000000) (hs : s ≤ 6) : fitD (decide (n < 0)) n.natAbs s = .tup [.agg (decD (decM n s)), .v (.bool true)] := by
  have h := trimN_le s n.natAbs
  unfold fitD
  simp only
  rw [if_pos ⟨by omega, by omega⟩]
  simp only [decD, decM, decide_eq_true_eq]
theorem f191_ok (n : Int) (s : Nat) (h1 : -1000000000000000 ≤ n) (h2 : n ≤ 1000000000000000) (hs : s ≤ 6) : FnOK sys 191 [.v (.int .i64 n), .v (.int .i64 s)] [] (.tup [.agg (decD (decM n s)), .v (.bool true)]) [] := by
  refine FnOK.intro Tryz.f191 (by kernel_rfl) rfl rfl [.cell 4 31, .tmp 5] rfl 0 rfl (Nat.le_of_ble_eq_true rfl) rfl rfl fun E hN h0 => W.code (N := 22) [] hN ?_
  have h174 := f174_ok n (by omega) (by omega)
  have h111 := f111_small (decide (n < 0)) n.natAbs s (by omega) (by omega)
  rw [fitD_made n s h1 h2 hs] at h111
  simp only [decD] at h111
  have c1 : ¬ ((s : Int) < 0) := by omega
  have c2 : ¬ ((18 : Int) < s) := by omega
  repeat (first | refine st_end rfl ?_ | ((first | refine st1 fun K k => ?_ | refine st2 fun K k => ?_ | refine st3 rfl fun K k => ?_ | refine st4 fun K k => ?_); simp only [go_sem, c1, c2, decide_false]; refine k _ _ _ _ _ _ ?_; clear k K))
  (first | refine st1 fun K k => ?_ | refine st3 rfl fun K k => ?_); simp only [go_sem]; refine callP (h174) ?_; refine k _ _ _ _ _ _ ?_; clear k K
  repeat (first | refine st_end rfl ?_ | ((first | refine st1 fun K k => ?_ | refine st2 fun K k => ?_ | refine st3 rfl fun K k => ?_ | refine st4 fun K k => ?_); simp only [go_sem]; refine k _ _ _ _ _ _ ?_; clear k K))
  (first | refine st1 fun K k => ?_ | refine st3 rfl fun K k => ?_); simp only [go_sem]; refine callP (h111) ?_; refine k _ _ _ _ _ _ ?_; clear k K
  repeat (first | refine st_end rfl ?_ | ((first | refine st1 fun K k => ?_ | refine st2 fun K k => ?_ | refine st3 rfl fun K k => ?_ | refine st4 fun K k => ?_); simp only [go_sem]; refine k _ _ _ _ _ _ ?_; clear k K))
  refine Done.mk (.inr rfl) Into.refl ?_ [] 0 ?_ ?_ ?_ ?_
  · rfl
  · rfl
  · simp only [go_sem, decD]
  · trivial
  · rfl
def words15 : List (List UInt8) := [[], [97], [98], [97, 98], [105, 116, 39, 115], [50, 48, 50, 52, 45, 48, 49, 45, 51, 49], [49, 50], [45, 51, 46, 53], [65, 124, 66, 44, 91, 99, 93, 59], [78, 111, 114, 116, 104, 32, 55], [120, 32, 121], [39, 39], [97, 98, 99, 97, 98, 99], [48], [55, 46, 50, 53]]
theorem f190_ok : FnOK sys 190 [] [] (strsD words15) [] := by
  refine FnOK.intro Tryz.f190 (by kernel_rfl) rfl rfl [.tmp 0] rfl 0 rfl (Nat.le_of_ble_eq_true rfl) rfl rfl fun E hN h0 => W.code (N := 2) [1] hN ?_
  repeat (first | refine st_end rfl ?_ | ((first | refine st1 fun K k => ?_ | refine st2 fun K k => ?_ | refine st3 rfl fun K k => ?_ | refine st4 fun K k => ?_); simp only [go_sem]; refine k _ _ _ _ _ _ ?_; clear k K))
  refine Done.t1 ?_
  simp only [go_sem, words15]
/-- A text, and how many numbers it takes. -/
def textN (L : List Int) (i : Nat) : Nat :=
  if nextV L i 18 < 15 then 0 else if nextV L i 18 = 17 then 190 + (nextV L (i + 2) 11).toNat else (nextV L (i + 1) 9).toNat
def textAt (L : List Int) (i : Nat) : Nat :=
  if nextV L i 18 < 15 then i + 1 else if nextV L i 18 = 17 then i + 3 else i + 2
def textV (L : List Int) (i : Nat) : List UInt8 :=
  if nextV L i 18 < 15 then words15.getD (nextV L i 18).toNat [] else (List.range (textN L i)).map fun j => UInt8.ofNat (32 + (nextV L (textAt L i + j) 95).toNat)
def textK (L : List Int) (i : Nat) : Nat := textAt L i + textN L i
def decV (L : List Int) (i : Nat) : Int × Int :=
  if nextV L (i + 1) 8 = 7 then decM (nextV L (i + 2) 2000000000000001 - 1000000000000000) (nextV L (i + 3) 4).toNat
  else decM (nextV L i 2001 - 1000) (nextV L (i + 2) 4).toNat
def decK (L : List Int) (i : Nat) : Nat := if nextV L (i + 1) 8 = 7 then i + 4 else i + 3
theorem call49' {S : Store} {nx : Nat} {K : Nat → KT} (l : Nat) (L : List Int) (i : Nat) {n : Int} (hl : Abs.look S l = some (numBox L (min i L.length))) (h1 : 1 ≤ n) (h2 : n ≤ 4000000000000000)
    (hK : K 0 (.v (.int .i64 (nextV L i n))) (putS (delS S l) l (numBox L (min (i + 1) L.length))) nx [l] [l, l]) : CallRes sys 49 [.ref l 0, .v (.int .i64 n)] S nx (K 0) := call49 l L i hl h1 h2 hK
theorem f144_ok (L : List Int) (i : Nat) : FnOK sys 144 [.ref 0 0] [(0, numBox L (min i L.length))] (.agg (decD (decV L i))) [(0, numBox L (min (decK L i) L.length))] := by
  refine FnOK.intro Tryz.f144 (by kernel_rfl) rfl rfl [.cell 2 31] rfl 1 rfl (Nat.le_of_ble_eq_true rfl) rfl rfl fun E hN h0 => W.code (N := 23) [] hN ?_
  repeat (first | refine st_end rfl ?_ | ((first | refine st1 fun K k => ?_ | refine st2 fun K k => ?_ | refine st3 rfl fun K k => ?_ | refine st4 fun K k => ?_); simp only [go_sem]; refine k _ _ _ _ _ _ ?_; clear k K))
  (first | refine st1 fun K k => ?_ | refine st3 rfl fun K k => ?_); simp only [go_sem]
  refine call49 0 L i (by simp only [go_sem]) (by omega) (by omega) ?_
  simp only [go_sem]
  refine k _ _ _ _ _ _ ?_; clear k K
  obtain ⟨a1, a2⟩ := nextV_pos L i (n := 2001) (by omega)
  have w1 : IntKind.wrap .i64 (nextV L i 2001 - 1000) = nextV L i 2001 - 1000 := wrapTo (by omega)
  repeat (first | refine st_end rfl ?_ | ((first | refine st1 fun K k => ?_ | refine st2 fun K k => ?_ | refine st3 rfl fun K k => ?_ | refine st4 fun K k => ?_); simp only [go_sem, w1]; refine k _ _ _ _ _ _ ?_; clear k K))
  (first | refine st1 fun K k => ?_ | refine st3 rfl fun K k => ?_); simp only [go_sem]
  refine call49 0 L (i + 1) (by simp only [go_sem]) (by omega) (by omega) ?_
  simp only [go_sem]
  refine k _ _ _ _ _ _ ?_; clear k K
  by_cases h7 : nextV L (i + 1) 8 = 7
  · have h7' : (nextV L (i + 1) 8 == 7) = true := by simpa using h7
    repeat (first | refine st_end rfl ?_ | ((first | refine st1 fun K k => ?_ | refine st2 fun K k => ?_ | refine st3 rfl fun K k => ?_ | refine st4 fun K k => ?_); simp only [go_sem, h7']; refine k _ _ _ _ _ _ ?_; clear k K))
    (first | refine st1 fun K k => ?_ | refine st3 rfl fun K k => ?_); simp only [go_sem]
    refine call49 0 L (i + 2) (by simp only [go_sem]) (by omega) (by omega) ?_
    simp only [go_sem]
    refine k _ _ _ _ _ _ ?_; clear k K
    obtain ⟨b1, b2⟩ := nextV_pos L (i + 2) (n := 2000000000000001) (by omega)
    have w2 : IntKind.wrap .i64 (nextV L (i + 2) 2000000000000001 - 1000000000000000) = nextV L (i + 2) 2000000000000001 - 1000000000000000 := wrapTo (by omega)
    repeat (first | refine st_end rfl ?_ | ((first | refine st1 fun K k => ?_ | refine st2 fun K k => ?_ | refine st3 rfl fun K k => ?_ | refine st4 fun K k => ?_); simp only [go_sem, w2]; refine k _ _ _ _ _ _ ?_; clear k K))
    (first | refine st1 fun K k => ?_ | refine st3 rfl fun K k => ?_); simp only [go_sem]
    refine call49 0 L (i + 3) (by simp only [go_sem]) (by omega) (by omega) ?_
    simp only [go_sem]
    refine k _ _ _ _ _ _ ?_; clear k K
    obtain ⟨c1, c2⟩ := nextV_pos L (i + 3) (n := 4) (by omega)
    obtain ⟨q, hq⟩ : ∃ q : Nat, nextV L (i + 3) 4 = q := ⟨_, (Int.toNat_of_nonneg c1).symm⟩
    have hq2 : (nextV L (i + 3) 4).toNat = q := by omega
    rw [hq]
    have h191 := f191_ok (nextV L (i + 2) 2000000000000001 - 1000000000000000) q (by omega) (by omega) (by omega)
    simp only [decD] at h191
    repeat (first | refine st_end rfl ?_ | ((first | refine st1 fun K k => ?_ | refine st2 fun K k => ?_ | refine st3 rfl fun K k => ?_ | refine st4 fun K k => ?_); simp only [go_sem]; refine k _ _ _ _ _ _ ?_; clear k K))
    (first | refine st1 fun K k => ?_ | refine st3 rfl fun K k => ?_); simp only [go_sem]; refine callP (h191) ?_; refine k _ _ _ _ _ _ ?_; clear k K
    repeat (first | refine st_end rfl ?_ | ((first | refine st1 fun K k => ?_ | refine st2 fun K k => ?_ | refine st3 rfl fun K k => ?_ | refine st4 fun K k => ?_); simp only [go_sem]; refine k _ _ _ _ _ _ ?_; clear k K))
    refine Done.mk (.inr rfl) Into.refl ?_ [(0, 0)] 1 ?_ ?_ ?_ ?_
    · rfl
    · rfl
    · simp only [go_sem, newOf, decD, decV, h7, hq2]
    · simp only [go_sem, newOf, decK, h7]
    · rfl
  · have h7' : (nextV L (i + 1) 8 == 7) = false := by simpa using h7
    repeat (first | refine st_end rfl ?_ | ((first | refine st1 fun K k => ?_ | refine st2 fun K k => ?_ | refine st3 rfl fun K k => ?_ | refine st4 fun K k => ?_); simp only [go_sem, h7']; refine k _ _ _ _ _ _ ?_; clear k K))
    (first | refine st1 fun K k => ?_ | refine st3 rfl fun K k => ?_); simp only [go_sem]
    refine call49 0 L (i + 2) (by simp only [go_sem]) (by omega) (by omega) ?_
    simp only [go_sem]
    refine k _ _ _ _ _ _ ?_; clear k K
    obtain ⟨c1, c2⟩ := nextV_pos L (i + 2) (n := 4) (by omega)
    obtain ⟨q, hq⟩ : ∃ q : Nat, nextV L (i + 2) 4 = q := ⟨_, (Int.toNat_of_nonneg c1).symm⟩
    have hq2 : (nextV L (i + 2) 4).toNat = q := by omega
    rw [hq]
    have h191 := f191_ok (nextV L i 2001 - 1000) q (by omega) (by omega) (by omega)
    simp only [decD] at h191
    repeat (first | refine st_end rfl ?_ | ((first | refine st1 fun K k => ?_ | refine st2 fun K k => ?_ | refine st3 rfl fun K k => ?_ | refine st4 fun K k => ?_); simp only [go_sem]; refine k _ _ _ _ _ _ ?_; clear k K))
    (first | refine st1 fun K k => ?_ | refine st3 rfl fun K k => ?_); simp only [go_sem]; refine callP (h191) ?_; refine k _ _ _ _ _ _ ?_; clear k K
    repeat (first | refine st_end rfl ?_ | ((first | refine st1 fun K k => ?_ | refine st2 fun K k => ?_ | refine st3 rfl fun K k => ?_ | refine st4 fun K k => ?_); simp only [go_sem]; refine k _ _ _ _ _ _ ?_; clear k K))
    refine Done.mk (.inr rfl) Into.refl ?_ [(0, 0)] 1 ?_ ?_ ?_ ?_
    · rfl
    · rfl
    · simp only [go_sem, newOf, decD, decV, h7, hq2]
    · simp only [go_sem, newOf, decK, h7]
    · rfl
theorem words_at {k : Nat} (h : k < 15) : (words15.map fun s => [D.s s])[k]? = some [.s (words15.getD k [])] := by
  rw [List.getElem?_map, List.getElem?_eq_getElem (by simpa [words15] using h), List.getD_eq_getElem?_getD, List.getElem?_eq_getElem (by simpa [words15] using h)]
  rfl
theorem f143_ok (L : List Int) (i : Nat) : FnOK sys 143 [.ref 0 0] [(0, numBox L (min i L.length))] (.s (textV L i)) [(0, numBox L (min (textK L i) L.length))] := by
  refine FnOK.intro Tryz.f143 (by kernel_rfl) rfl rfl [.tmp 2] rfl 1 rfl (Nat.le_of_ble_eq_true rfl) rfl rfl fun E hN h0 => W.code (N := 40) [36] hN ?_
  repeat (first | refine st_end rfl ?_ | ((first | refine st1 fun K k => ?_ | refine st2 fun K k => ?_ | refine st3 rfl fun K k => ?_ | refine st4 fun K k => ?_); simp only [go_sem]; refine k _ _ _ _ _ _ ?_; clear k K))
  (first | refine st1 fun K k => ?_ | refine st3 rfl fun K k => ?_); simp only [go_sem]
  refine call49 0 L i (by simp only [go_sem]) (by omega) (by omega) ?_
  simp only [go_sem]
  refine k _ _ _ _ _ _ ?_; clear k K
  obtain ⟨a1, a2⟩ := nextV_pos L i (n := 18) (by omega)
  obtain ⟨q, hq⟩ : ∃ q : Nat, nextV L i 18 = q := ⟨_, (Int.toNat_of_nonneg a1).symm⟩
  rw [hq]
  have hwl : ((words15.map fun s => [D.s s]).length : Int) = 15 := rfl
  repeat (first | refine st_end rfl ?_ | ((first | refine st1 fun K k => ?_ | refine st2 fun K k => ?_ | refine st3 rfl fun K k => ?_ | refine st4 fun K k => ?_); simp only [go_sem]; refine k _ _ _ _ _ _ ?_; clear k K))
  (first | refine st1 fun K k => ?_ | refine st3 rfl fun K k => ?_); simp only [go_sem]; refine callP (f190_ok) ?_; refine k _ _ _ _ _ _ ?_; clear k K
  have hw15 : (words15.length : Int) = 15 := rfl
  by_cases h15 : (q : Int) < 15
  · have hwa := words_at (k := q) (by omega)
    have hlt : q < 15 := by omega
    have hget : words15[q]? = some (words15.getD q []) := by
      rw [List.getD_eq_getElem?_getD, List.getElem?_eq_getElem (by simpa [words15] using hlt)]; rfl
    repeat (first | refine st_end rfl ?_ | ((first | refine st1 fun K k => ?_ | refine st2 fun K k => ?_ | refine st3 rfl fun K k => ?_ | refine st4 fun K k => ?_); simp only [go_sem, hw15, h15, decide_true, hget]; refine k _ _ _ _ _ _ ?_; clear k K))
    refine Done.mk (.inr rfl) Into.refl ?_ [(0, 0)] 1 ?_ ?_ ?_ ?_
    · rfl
    · rfl
    · simp only [go_sem, newOf, textV, hq, h15]
    · simp only [go_sem, newOf, textK, textAt, textN, hq, h15]
    · rfl
  repeat (first | refine st_end rfl ?_ | ((first | refine st1 fun K k => ?_ | refine st2 fun K k => ?_ | refine st3 rfl fun K k => ?_ | refine st4 fun K k => ?_); simp only [go_sem, hw15, h15, decide_false]; refine k _ _ _ _ _ _ ?_; clear k K))
  (first | refine st1 fun K k => ?_ | refine st3 rfl fun K k => ?_); simp only [go_sem]
  refine call49 0 L (i + 1) (by simp only [go_sem]) (by omega) (by omega) ?_
  simp only [go_sem]
  refine k _ _ _ _ _ _ ?_; clear k K
  obtain ⟨b1, b2⟩ := nextV_pos L (i + 1) (n := 9) (by omega)
  have hn9 : ¬ nextV L i 18 < 15 := by omega
  have hsub : ∀ (θ : Nat → Option Nat) (c : UInt8), subL θ (byteD c) = byteD c := fun _ _ => rfl
  have hnn : textN L i ≤ 1000 := by
    obtain ⟨c1, c2⟩ := nextV_pos L (i + 2) (n := 11) (by omega)
    unfold textN
    split
    · omega
    · split <;> omega
  have hvv : textV L i = (List.range (textN L i)).map fun j => UInt8.ofNat (32 + (nextV L (textAt L i + j) 95).toNat) := by
    unfold textV; rw [if_neg hn9]
  have hcase : (∃ q17 : ((q : Int) == 17) = true, textAt L i = i + 3) ∨ (∃ q17 : ((q : Int) == 17) = false, textAt L i = i + 2) := by
    by_cases h17 : q = 17
    · refine .inl ⟨by simp [h17], ?_⟩
      unfold textAt; rw [if_neg hn9, if_pos (by omega)]
    · refine .inr ⟨by simpa using (by omega : ¬ (q : Int) = 17), ?_⟩
      unfold textAt; rw [if_neg hn9, if_neg (by omega)]
  obtain ⟨c1, c2⟩ := nextV_pos L (i + 2) (n := 11) (by omega)
  rcases hcase with ⟨h17, hat⟩ | ⟨h17, hat⟩
  · have w2 : IntKind.wrap .i64 (190 + nextV L (i + 2) 11) = ((textN L i : Nat) : Int) := by
      have : (q : Int) = 17 := by simpa using h17
      unfold textN; rw [if_neg hn9, if_pos (by omega)]
      exact wrapTo (by omega)
    repeat (first | refine st_end rfl ?_ | ((first | refine st1 fun K k => ?_ | refine st2 fun K k => ?_ | refine st3 rfl fun K k => ?_ | refine st4 fun K k => ?_); simp only [go_sem, h17]; refine k _ _ _ _ _ _ ?_; clear k K))
    (first | refine st1 fun K k => ?_ | refine st3 rfl fun K k => ?_); simp only [go_sem]
    refine call49 0 L (i + 2) (by simp only [go_sem]) (by omega) (by omega) ?_
    simp only [go_sem]
    refine k _ _ _ _ _ _ ?_; clear k K
    repeat (first | refine st_end rfl ?_ | ((first | refine st1 fun K k => ?_ | refine st2 fun K k => ?_ | refine st3 rfl fun K k => ?_ | refine st4 fun K k => ?_); simp only [go_sem, w2]; refine k _ _ _ _ _ _ ?_; clear k K))
    refine W.loopP (fun j : Nat => ⟨[(0, .ref 0 0), (5, .v (.int .i64 (textN L i))), (6, .own 1 j), (7, .v (.int .i64 j))], [(0, numBox L (min (textAt L i + j) L.length)), (1, .row 5 1 (((List.range j).map fun j => UInt8.ofNat (32 + (nextV L (textAt L i + j) 95).toNat)).map byteD))], 2, []⟩)
      (fun j => j ≤ textN L i) (fun j => textN L i - j) 0 (Nat.zero_le _) ((Into.nilRow 6 5 1 rfl).trans (Into.le ?_ ?_ (Nat.le_refl _) rfl)) fun j hj => W.code (N := 40) [36] hN ?_
    · simp only [go_sem]
      exact LeD.refl _
    · simp only [go_sem, hat, Nat.add_zero, List.range_zero]
    repeat (first | refine st_end rfl ?_ | ((first | refine st1 fun K k => ?_ | refine st2 fun K k => ?_ | refine st3 rfl fun K k => ?_ | refine st4 fun K k => ?_); simp only [go_sem]; refine k _ _ _ _ _ _ ?_; clear k K))
    refine st_cond fun A B a b => ?_; simp only [go_sem]; refine ⟨fun g => a ?_, fun g => b ?_⟩ <;> clear a b A B
    · repeat (first | refine st_end rfl ?_ | ((first | refine st1 fun K k => ?_ | refine st2 fun K k => ?_ | refine st3 rfl fun K k => ?_ | refine st4 fun K k => ?_); simp only [go_sem]; refine k _ _ _ _ _ _ ?_; clear k K))
      (first | refine st1 fun K k => ?_ | refine st3 rfl fun K k => ?_); simp only [go_sem]
      refine call49 0 L (textAt L i + j) (by simp only [go_sem]) (by omega) (by omega) ?_
      simp only [go_sem]
      refine k _ _ _ _ _ _ ?_; clear k K
      obtain ⟨d1, d2⟩ := nextV_pos L (textAt L i + j) (n := 95) (by omega)
      obtain ⟨x, hx⟩ : ∃ x : Nat, nextV L (textAt L i + j) 95 = x := ⟨_, (Int.toNat_of_nonneg d1).symm⟩
      have hx2 : (nextV L (textAt L i + j) 95).toNat = x := by omega
      rw [hx]
      have w3 : IntKind.wrap .i64 (32 + (x : Int)) = ((32 + x : Nat) : Int) := wrapTo (by omega)
      have w4 : IntKind.wrap .u8 ((32 + x : Nat) : Int) = ((32 + x : Nat) : Int) := by
        simp only [IntKind.wrap, IntKind.bits, IntKind.signed, Bool.false_and]
        rw [if_neg (by simp)]
        omega
      have w5 : IntKind.wrap .i64 ((j : Int) + 1) = ((j + 1 : Nat) : Int) := wrapTo (by omega)
      have b1 : j + 1 ≤ maxLen := by unfold maxLen; omega
      have b2 : (j + 1) * 1 ≤ 140737488355328 := by omega
      repeat (first | refine st_end rfl ?_ | ((first | refine st1 fun K k => ?_ | refine st2 fun K k => ?_ | refine st3 rfl fun K k => ?_ | refine st4 fun K k => ?_); simp only [go_sem, w3, w4, w5, b1, b2, List.length_range]; refine k _ _ _ _ _ _ ?_; clear k K))
      refine ⟨j + 1, by omega, by omega, (Into.ren h0 [(0, 0), (1, 2)] 2 rfl).trans (Into.le ?_ ?_ (Nat.le_refl _) rfl)⟩
      · simp only [go_sem, newOf]
      · have hb : byteD (UInt8.ofNat (32 + x)) = [.v (.int .u8 ((32 + x : Nat) : Int))] := by
          have : (UInt8.ofNat (32 + x)).toNat = 32 + x := by simp; omega
          simp only [byteD, this]
        simp only [go_sem, newOf, hsub, List.range_succ, hx2, hb, Nat.add_assoc]
    · obtain rfl : j = textN L i := by omega
      refine iq (Into.frz [1] ?_) ?_
      · simp only [go_sem]
        intro e he
        obtain ⟨c, _, rfl⟩ := List.mem_map.1 he; rfl
      have hbm := bytesD_map ((List.range (textN L i)).map fun j => UInt8.ofNat (32 + (nextV L (textAt L i + j) 95).toNat))
      simp only [List.map_map, Function.comp_def] at hbm
      simp only [go_sem, List.length_range]
      repeat (first | refine st_end rfl ?_ | ((first | refine st1 fun K k => ?_ | refine st2 fun K k => ?_ | refine st3 rfl fun K k => ?_ | refine st4 fun K k => ?_); simp only [go_sem, hbm]; refine k _ _ _ _ _ _ ?_; clear k K))
      refine Done.mk (.inr rfl) Into.refl ?_ [(0, 0)] 1 ?_ ?_ ?_ ?_
      · rfl
      · rfl
      · simp only [go_sem, newOf, hvv]
      · simp only [go_sem, newOf, textK]
      · rfl
  · have w2 : nextV L (i + 1) 9 = ((textN L i : Nat) : Int) := by
      have : ¬ (q : Int) = 17 := by simpa using h17
      unfold textN; rw [if_neg hn9, if_neg (by omega)]
      omega
    rw [w2]
    repeat (first | refine st_end rfl ?_ | ((first | refine st1 fun K k => ?_ | refine st2 fun K k => ?_ | refine st3 rfl fun K k => ?_ | refine st4 fun K k => ?_); simp only [go_sem, h17]; refine k _ _ _ _ _ _ ?_; clear k K))
    refine W.loopP (fun j : Nat => ⟨[(0, .ref 0 0), (5, .v (.int .i64 (textN L i))), (6, .own 1 j), (7, .v (.int .i64 j))], [(0, numBox L (min (textAt L i + j) L.length)), (1, .row 5 1 (((List.range j).map fun j => UInt8.ofNat (32 + (nextV L (textAt L i + j) 95).toNat)).map byteD))], 2, []⟩)
      (fun j => j ≤ textN L i) (fun j => textN L i - j) 0 (Nat.zero_le _) ((Into.nilRow 6 5 1 rfl).trans (Into.le ?_ ?_ (Nat.le_refl _) rfl)) fun j hj => W.code (N := 40) [36] hN ?_
    · simp only [go_sem]
      exact LeD.refl _
    · simp only [go_sem, hat, Nat.add_zero, List.range_zero]
    repeat (first | refine st_end rfl ?_ | ((first | refine st1 fun K k => ?_ | refine st2 fun K k => ?_ | refine st3 rfl fun K k => ?_ | refine st4 fun K k => ?_); simp only [go_sem]; refine k _ _ _ _ _ _ ?_; clear k K))
    refine st_cond fun A B a b => ?_; simp only [go_sem]; refine ⟨fun g => a ?_, fun g => b ?_⟩ <;> clear a b A B
    · repeat (first | refine st_end rfl ?_ | ((first | refine st1 fun K k => ?_ | refine st2 fun K k => ?_ | refine st3 rfl fun K k => ?_ | refine st4 fun K k => ?_); simp only [go_sem]; refine k _ _ _ _ _ _ ?_; clear k K))
      (first | refine st1 fun K k => ?_ | refine st3 rfl fun K k => ?_); simp only [go_sem]
      refine call49 0 L (textAt L i + j) (by simp only [go_sem]) (by omega) (by omega) ?_
      simp only [go_sem]
      refine k _ _ _ _ _ _ ?_; clear k K
      obtain ⟨d1, d2⟩ := nextV_pos L (textAt L i + j) (n := 95) (by omega)
      obtain ⟨x, hx⟩ : ∃ x : Nat, nextV L (textAt L i + j) 95 = x := ⟨_, (Int.toNat_of_nonneg d1).symm⟩
      have hx2 : (nextV L (textAt L i + j) 95).toNat = x := by omega
      rw [hx]
      have w3 : IntKind.wrap .i64 (32 + (x : Int)) = ((32 + x : Nat) : Int) := wrapTo (by omega)
      have w4 : IntKind.wrap .u8 ((32 + x : Nat) : Int) = ((32 + x : Nat) : Int) := by
        simp only [IntKind.wrap, IntKind.bits, IntKind.signed, Bool.false_and]
        rw [if_neg (by simp)]
        omega
      have w5 : IntKind.wrap .i64 ((j : Int) + 1) = ((j + 1 : Nat) : Int) := wrapTo (by omega)
      have b1 : j + 1 ≤ maxLen := by unfold maxLen; omega
      have b2 : (j + 1) * 1 ≤ 140737488355328 := by omega
      repeat (first | refine st_end rfl ?_ | ((first | refine st1 fun K k => ?_ | refine st2 fun K k => ?_ | refine st3 rfl fun K k => ?_ | refine st4 fun K k => ?_); simp only [go_sem, w3, w4, w5, b1, b2, List.length_range]; refine k _ _ _ _ _ _ ?_; clear k K))
      refine ⟨j + 1, by omega, by omega, (Into.ren h0 [(0, 0), (1, 2)] 2 rfl).trans (Into.le ?_ ?_ (Nat.le_refl _) rfl)⟩
      · simp only [go_sem, newOf]
      · have hb : byteD (UInt8.ofNat (32 + x)) = [.v (.int .u8 ((32 + x : Nat) : Int))] := by
          have : (UInt8.ofNat (32 + x)).toNat = 32 + x := by simp; omega
          simp only [byteD, this]
        simp only [go_sem, newOf, hsub, List.range_succ, hx2, hb, Nat.add_assoc]
    · obtain rfl : j = textN L i := by omega
      refine iq (Into.frz [1] ?_) ?_
      · simp only [go_sem]
        intro e he
        obtain ⟨c, _, rfl⟩ := List.mem_map.1 he; rfl
      have hbm := bytesD_map ((List.range (textN L i)).map fun j => UInt8.ofNat (32 + (nextV L (textAt L i + j) 95).toNat))
      simp only [List.map_map, Function.comp_def] at hbm
      simp only [go_sem, List.length_range]
      repeat (first | refine st_end rfl ?_ | ((first | refine st1 fun K k => ?_ | refine st2 fun K k => ?_ | refine st3 rfl fun K k => ?_ | refine st4 fun K k => ?_); simp only [go_sem, hbm]; refine k _ _ _ _ _ _ ?_; clear k K))
      refine Done.mk (.inr rfl) Into.refl ?_ [(0, 0)] 1 ?_ ?_ ?_ ?_
      · rfl
      · rfl
      · simp only [go_sem, newOf, hvv]
      · simp only [go_sem, newOf, textK]
      · rfl
end Go.Proofs.YtjgooecohepkoaaGreatDoor
