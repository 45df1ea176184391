/- Contracts of the functions that the statement reaches. -/
import Derived.Test.YtjgooecohepkoaaGreatDoorSAG
import Derived.Test.YtjgooecohepkoaaGreatDoorSAK
import Derived.Test.YtjgooecohepkoaaGreatDoorSAB
import Derived.Test.YtjgooecohepkoaaGreatDoorSAM
set_option linter.unusedVariables false
set_option linter.unusedSimpArgs false
namespace Go.Proofs.YtjgooecohepkoaaGreatDoor
open Go Go.Abs
set_option linter.unusedSimpArgs false
set_option maxHeartbeats 2000000
/-! ### A range over a column whose body makes objects -/
theorem f100_gen (l : Nat) (rows : List (List Val)) (c : Nat) (hc : ∀ r ∈ rows, c < r.length) (f : Nat → Store) (nf : Nat → Nat) (go : Nat → Bool) (k : Nat) (hk : k ≤ rows.length) (hgo : ∀ i, i + 1 < k → go i = true) (hend : k = rows.length ∨ (0 < k ∧ go (k - 1) = false))
    (hw : ∀ i, weakS (f i) (f i)) (hlt : ∀ i, ∀ x ∈ f i, x.1 < nf i) (hnf : ∀ i, nf i ≤ nf (i + 1)) (hfr : ∀ i, ∀ x ∈ f (i + 1), Abs.look (f i) x.1 = none → nf i ≤ x.1) (hl : (Abs.look (f 0) l).isSome = true) (hid : mapS (subO (idP (f 0))) (f 0) = f 0) (hinj : injB (idm (f k)) = true) (hsub : subS (idm (f k)) (f k) (idm (f k)) = f k)
    (hround : ∀ i r v, i < k → rows[i]? = some r → r[c]? = some v → RdOK sys l [.v (.int .i64 i), .agg (encV v)] (f i) (.v (.bool (go i))) (f (i + 1))) :
    FnOK sys 100 [.yl l, .ep [rowsV rows], .ep [.v (.int .i64 c)]] (f 0) (.tup []) (f k) := by
  have hmono : ∀ i, nf 0 ≤ nf i := by
    intro i
    induction i with
    | zero => exact Nat.le_refl _
    | succ i ih => exact Nat.le_trans ih (hnf i)
  refine FnOK.intro Tryz.f100 (by kernel_rfl) rfl rfl [] rfl (nf 0) ?_ (Nat.le_of_ble_eq_true rfl) ?_ hid fun E hN h0 => ?_
  · rw [List.all_eq_true]
    intro x hx
    simpa using hlt 0 x hx
  · simp only [subL, subD, idP, hl, rowsV, if_true]
  have hdone : ∀ (e : Exit) (σ : List (Nat × D)) (S : Store), (e = .normal ∨ e = .ret) → weakS S (f k) → Done E (nf 0) [] (.tup []) (f k) e ⟨σ, S, nf k, []⟩ := by
    intro e σ S he hS
    refine Done.mk he (Into.weak (st' := ⟨[], f k, nf k, []⟩) trivial hS (Nat.le_refl _) rfl) rfl (idm (f k)) (nf k) (renB_idm hinj (hmono k) fun x hx => ⟨by rw [weakS_mem (hw k) x hx]; rfl, hlt k x hx⟩) ?_ (by rw [hsub]; exact hw k) all_idm
    simp only [go_sem]
  refine W.boundE 1 0 (es := rows.map fun r => [rowV r]) (sz := 1) rfl rfl fun hb => W.code (N := 22) [] hN ?_
  simp only [List.length_map, maxLen] at hb
  repeat (first | refine st_end rfl ?_ | ((first | refine st1 fun K k => ?_ | refine st2 fun K k => ?_ | refine st3 rfl fun K k => ?_ | refine st4 fun K k => ?_); simp only [go_sem]; refine k _ _ _ _ _ _ ?_; clear k K))
  refine W.loopP (fun i : Nat => ⟨[(0, .yl l), (1, .ep [rowsV rows]), (2, .ep [.v (.int .i64 c)]), (6, rowsV rows), (7, .v (.int .i64 rows.length)), (8, .v (.int .i64 i))], f i, nf i, []⟩)
    (fun i => i ≤ k ∧ (i = k → k = rows.length)) (fun i => k - i) 0 ?_ (Into.le ?_ ?_ (Nat.le_refl _) rfl) fun i hi => W.code (N := 22) [] hN ?_
  · refine ⟨Nat.zero_le _, fun h => ?_⟩
    omega
  · simp only [go_sem]
    exact LeD.refl _
  · exact leS_of_weak (hw 0)
  repeat (first | refine st_end rfl ?_ | ((first | refine st1 fun K k => ?_ | refine st2 fun K k => ?_ | refine st3 rfl fun K k => ?_ | refine st4 fun K k => ?_); simp only [go_sem]; refine k _ _ _ _ _ _ ?_; clear k K))
  refine st_cond fun A B a b => ?_; simp only [go_sem]; refine ⟨fun g => a ?_, fun g => b ?_⟩ <;> clear a b A B
  · have hik : i < k := by
      rcases Nat.lt_or_ge i k with h | h
      · exact h
      · exfalso; have := hi.2 (by omega); omega
    obtain ⟨r, hr⟩ := getS (l := rows) (i := i) (by omega)
    obtain ⟨v, hv⟩ := getS (l := r) (i := c) (hc r (List.mem_of_getElem? hr))
    have hrd := hround i r v hik hr hv
    have hput : weakS (putAll (delAll (f i) (namesL (f i))) (f (i + 1))) (f (i + 1)) := weakS_put _ _ (hw (i + 1))
    repeat (first | refine st_end rfl ?_ | ((first | refine st1 fun K k => ?_ | refine st2 fun K k => ?_ | refine st3 rfl fun K k => ?_ | refine st4 fun K k => ?_); simp only [go_sem, hr, hv, encV_len, encV_take, Nat.le_refl]; refine k _ _ _ _ _ _ ?_; clear k K))
    (first | refine st1 fun K k => ?_ | refine st3 rfl fun K k => ?_); simp only [go_sem]
    refine YieldRes.touch (f i) _ (f (i + 1)) (nf (i + 1)) hrd ⟨fun x hx => weakS_mem (hw i) x hx, hnf i, fun x hx hn => ⟨hfr i x hx hn, hlt (i + 1) x hx⟩⟩ ?_
    refine k _ _ _ _ _ _ ?_; clear k K
    cases hg : go i with
    | true =>
      have w5 : IntKind.wrap .i64 ((i : Int) + 1) = ((i + 1 : Nat) : Int) := wrapTo (by omega)
      repeat (first | refine st_end rfl ?_ | ((first | refine st1 fun K k => ?_ | refine st2 fun K k => ?_ | refine st3 rfl fun K k => ?_ | refine st4 fun K k => ?_); simp only [go_sem, w5]; refine k _ _ _ _ _ _ ?_; clear k K))
      refine ⟨i + 1, ⟨by omega, fun h => ?_⟩, by omega, Into.le ?_ (leS_of_weak hput) (Nat.le_refl _) rfl⟩
      · rcases hend with h2 | ⟨_, h2⟩
        · exact h2
        · rw [← h] at h2
          simp only [Nat.add_sub_cancel, hg] at h2
          cases h2
      · simp only [go_sem]
    | false =>
      have hlast : i + 1 = k := by
        rcases Nat.lt_or_ge (i + 1) k with h | h
        · rw [hgo i h] at hg; cases hg
        · omega
      subst hlast
      repeat (first | refine st_end rfl ?_ | ((first | refine st1 fun K k => ?_ | refine st2 fun K k => ?_ | refine st3 rfl fun K k => ?_ | refine st4 fun K k => ?_); simp only [go_sem]; refine k _ _ _ _ _ _ ?_; clear k K))
      exact iq Into.refl (hdone _ _ _ (.inr rfl) hput)
  · refine iq Into.refl ?_
    have hik : i = k := by
      rcases hend with h | ⟨h, h2⟩
      · omega
      · omega
    subst hik
    repeat (first | refine st_end rfl ?_ | ((first | refine st1 fun K k => ?_ | refine st2 fun K k => ?_ | refine st3 rfl fun K k => ?_ | refine st4 fun K k => ?_); simp only [go_sem]; refine k _ _ _ _ _ _ ?_; clear k K))
    exact hdone _ _ _ (.inl rfl) (hw i)
/-- How a round ends that made objects: 'm' says what they are called from now on. -/
def RdEnd2 (E : Env sys) (l : Nat) (L : AO) (j : Option Code) (B : List Nat) (n : Nat) (T : Store) (e : Exit) (st : St) : Prop :=
  jumpOf e = some j ∧ ∃ st', Into E st st' ∧ Abs.look st'.S l = some L ∧ ∃ m : List (Nat × Nat), injB ((l, l) :: m) = true ∧ (∀ x ∈ m, (x.1 = x.2 ∨ n ≤ x.1) ∧ (Abs.look st'.S x.2).isSome = true ∧ (Abs.look T x.1).isSome = true) ∧
    (∀ a ∈ B, newOf ((l, l) :: m) a = some a) ∧ weakS (subS ((l, l) :: m) st'.S m) T
theorem le_sumL : ∀ {l : List Nat} {a : Nat}, a ∈ l → a ≤ l.sum
  | b :: r, a, h => by
    rw [List.sum_cons]
    rcases List.mem_cons.1 h with rfl | h
    · omega
    · have := le_sumL h; omega
theorem injB_tail {a b : Nat} {m : List (Nat × Nat)} (h : injB ((a, b) :: m) = true) : injB m = true ∧ ∀ x ∈ m, x.1 ≠ a ∧ x.2 ≠ b := by
  simp only [injB, Bool.and_eq_true, List.all_eq_true] at h
  refine ⟨h.2, fun x hx => ?_⟩
  have := h.1 x hx
  constructor
  · intro e; rw [e] at this; simp at this
  · intro e; rw [e] at this; simp at this
theorem subS_put {θ : List (Nat × Nat)} {S : Store} {l : Nat} {o : AO} : ∀ {m : List (Nat × Nat)}, (∀ x ∈ m, x.2 ≠ l) → subS θ (putS S l o) m = subS θ S m
  | [], _ => rfl
  | (a, b) :: r, h => by
    have hb : l ≠ b := fun e => h (a, b) (by simp) e.symm
    simp only [subS, look_putS, if_neg hb]
    rw [subS_put fun x hx => h x (by simp [hx])]
theorem namesL_subS {θ : List (Nat × Nat)} {S : Store} : ∀ {m : List (Nat × Nat)} {a : Nat}, a ∈ namesL (subS θ S m) → ∃ x ∈ m, x.1 = a
  | [], a, h => by simp [subS, namesL] at h
  | (n, o) :: r, a, h => by
    simp only [subS] at h
    split at h
    · simp only [namesL, List.map_cons, List.mem_cons] at h
      rcases h with h | h
      · exact ⟨(n, o), by simp, h.symm⟩
      · obtain ⟨x, hx, e⟩ := namesL_subS (a := a) h
        exact ⟨x, by simp [hx], e⟩
    · obtain ⟨x, hx, e⟩ := namesL_subS (a := a) h
      exact ⟨x, by simp [hx], e⟩
theorem W.column2 {E : Env sys} {st : St} {Q : Exit → St → Prop} {f : Operand} {ps : Array Tmp} {ac bd : Code} (rows : List (List Val)) (c : Nat) (hc : ∀ r ∈ rows, c < r.length) (hrd : E.rd = none)
    (hv : evD E.gl st.σ f = .fn (.func 100) [] [.ep [rowsV rows], .ep [.v (.int .i64 c)]]) (hp2 : ps.toList.length = 2) (hps : (ps.toList.all fun t => Nat.blt t E.N) = true)
    (S : Nat → Store) (nf : Nat → Nat) (B : List Nat) (hn0 : nf 0 = st.nx + 1) (hnf : ∀ i, nf i ≤ nf (i + 1)) (hS0 : weakS st.S (S 0)) (hw : ∀ i, weakS (S i) (S i)) (hlt : ∀ i, ∀ a ∈ namesL (S i), a ≠ st.nx ∧ a < nf i) (hinj : ∀ i, injB (idm (S i)) = true)
    (hfr : ∀ i, ∀ a ∈ namesL (S (i + 1)), a ∉ namesL (S i) → nf i ≤ a) (hB : ∀ i, ∀ a ∈ B, a ∈ namesL (S i))
    (hσ : ∀ θ : Nat → Option Nat, (∀ a ∈ B, θ a = some a) → mapT (subD θ) st.σ = st.σ) (hsS : ∀ i (θ : Nat → Option Nat), (∀ a ∈ namesL (S i), θ a = some a) → mapS (subO θ) (S i) = S i)
    (k : Nat) (hk : k ≤ rows.length) (j : Option Code) (hj : (j = none ∧ k = rows.length) ∨ (j ≠ none ∧ 0 < k))
    (hround : ∀ i r v, i < k → rows[i]? = some r → r[c]? = some v → ∀ E' : Env sys, E'.N = E.N → E'.rd = some st.nx → (∀ l, E'.g0.φ l ≠ none → l < nf i) → ∀ L : AO,
      W E' ac ⟨zipT st.σ ps.toList [.v (.int .i64 i), .agg (encV v)], (st.nx, L) :: S i, nf i, []⟩ (thenQ (fun stA => ∃ st1, Into E' stA st1 ∧ Abs.look st1.S st.nx = some L ∧
        ∀ L', W E' bd ⟨st1.σ, putS st1.S st.nx L', st1.nx, []⟩ (RdEnd2 E' st.nx L' (if i + 1 = k then j else none) B (nf i) (S (i + 1)))) (fun _ _ => False)))
    (hK : match j with | none => IQ E Q .normal ⟨st.σ, S k, nf k, st.ds⟩ | some cc => W E cc ⟨st.σ, S k, nf k, st.ds⟩ Q) : W E (.rangeFunc f ps ac bd) st Q := by
  obtain ⟨F, hF⟩ : ∃ F : Nat → Store, ∀ i, F i = (st.nx, AO.lp (if i = k ∧ j ≠ none then .done else .ready) (if i = k then j else none) st.σ E.N ps.toList ac bd) :: S i := ⟨_, fun _ => rfl⟩
  have hnx : ∀ i, st.nx ∉ namesL (S i) := fun i h => (hlt i _ h).1 rfl
  have hmemF : ∀ i a, a ∈ namesL (F i) ↔ a = st.nx ∨ a ∈ namesL (S i) := by
    intro i a
    rw [hF]
    simp [namesL]
  have hn0' : ∀ i, st.nx < nf i := by
    intro i
    induction i with
    | zero => omega
    | succ i ih => exact Nat.lt_of_lt_of_le ih (hnf i)
  have hwF : ∀ i, weakS (F i) (F i) := by
    intro i
    rw [hF]
    refine ⟨by simp [Abs.look], weakS_cons (hnx i) (hw i) ?_⟩
    intro x hx e
    exact hnx i (e ▸ List.mem_map.2 ⟨x, hx, rfl⟩)
  have hθF : ∀ i (θ : Nat → Option Nat), (∀ a ∈ namesL (F i), θ a = some a) → mapS (subO θ) (F i) = F i := by
    intro i θ hθ
    have hθ' : ∀ a ∈ namesL (S i), θ a = some a := fun a ha => hθ a ((hmemF i a).2 (.inr ha))
    have h2 := hσ θ fun a ha => hθ' a (hB i a ha)
    rw [hF]
    have h1 := hsS i θ hθ'
    simp only [mapS, List.map_cons, subO, h2] at h1 ⊢
    rw [h1]
  have hinjF : ∀ i, injB (idm (F i)) = true := by
    intro i
    rw [hF]
    simp only [idm, List.map_cons, injB, Bool.and_eq_true, List.all_eq_true]
    refine ⟨?_, hinj i⟩
    intro x hx
    obtain ⟨y, hy, rfl⟩ := List.mem_map.1 hx
    have hne : y.1 ≠ st.nx := fun e => hnx i (e ▸ List.mem_map.2 ⟨y, hy, rfl⟩)
    have hb : Nat.beq y.1 st.nx = false := by
      cases hq : Nat.beq y.1 st.nx with
      | false => rfl
      | true => exact absurd (Nat.eq_of_beq_eq_true hq) hne
    simp [hb]
  have hltF : ∀ i, ∀ x ∈ F i, x.1 < nf i := by
    intro i x hx
    have := (hmemF i x.1).1 (List.mem_map.2 ⟨x, hx, rfl⟩)
    rcases this with h | h
    · rw [h]; exact hn0' i
    · exact (hlt i _ h).2
  have hfrF : ∀ i, ∀ x ∈ F (i + 1), Abs.look (F i) x.1 = none → nf i ≤ x.1 := by
    intro i x hx hnone
    have h1 := look_none.1 hnone
    have h2 := (hmemF (i + 1) x.1).1 (List.mem_map.2 ⟨x, hx, rfl⟩)
    rcases h2 with h2 | h2
    · exact absurd ((hmemF i x.1).2 (.inl h2)) h1
    · exact hfr i x.1 h2 fun h3 => h1 ((hmemF i x.1).2 (.inr h3))
  have hltB : ∀ i, ((F i).all fun x => Nat.blt x.1 (nf i)) = true := by
    intro i
    rw [List.all_eq_true]
    intro x hx
    simpa using hltF i x hx
  have hround' : ∀ i r v, i < k → rows[i]? = some r → r[c]? = some v → RdOK sys st.nx [.v (.int .i64 i), .agg (encV v)] (F i) (.v (.bool (decide (¬ (i + 1 = k ∧ j ≠ none))))) (F (i + 1)) := by
    intro i r v hik hr hvv
    have hFi : F i = (st.nx, AO.lp .ready none st.σ E.N ps.toList ac bd) :: S i := by
      rw [hF, if_neg (by omega), if_neg (by omega)]
    refine RdOK.intro (show Abs.look (F i) st.nx = some (.lp .ready none st.σ E.N ps.toList ac bd) by rw [hFi]; simp [Abs.look]) (nf i) (hltB i) (by simp only [subL, subD, subL_enc]) (hθF i _ fun a ha => idP_of ha) (by rw [hp2]; rfl) hps ?_
    intro E' hN' hrd' h0'
    rw [hFi]
    refine (hround i r v hik hr hvv E' hN' hrd' h0' _).mono ?_
    intro e stA q
    cases e <;> simp only [thenQ] at q ⊢
    obtain ⟨st1, hi1, hl1, hbd⟩ := q
    refine ⟨st1, hi1, none, st.σ, E.N, ps.toList, ac, bd, hl1, (hbd _).mono ?_⟩
    rintro e2 st2 ⟨hj2, st3, hi3, hl3, m, hm1, hm2, hm3, hm4⟩
    obtain ⟨hmi, hmn⟩ := injB_tail hm1
    refine ⟨_, hj2, ?_, st3, hi3, _, _, _, _, _, _, _, hl3, (st.nx, st.nx) :: m, nf (i + 1) + (m.map (·.1)).sum + nf i, ?_, ?_, ?_⟩
    · congr 2
      by_cases h1 : i + 1 = k
      · cases j <;> simp [h1]
      · simp [h1]
    · have hsum : ∀ x ∈ m, x.1 ≤ (m.map (·.1)).sum := by
        intro x hx
        exact le_sumL (List.mem_map.2 ⟨x, hx, rfl⟩)
      have hnp := hn0' i
      have hnp1 := hn0' (i + 1)
      simp only [renB, Bool.and_eq_true, List.all_eq_true, Bool.or_eq_true, Nat.ble_eq, Nat.blt_eq]
      refine ⟨⟨hm1, by omega⟩, ?_⟩
      intro x hx
      rcases List.mem_cons.1 hx with rfl | hx
      · refine ⟨⟨.inl (by simp), by simp [look_putS]⟩, by simp only; omega⟩
      · obtain ⟨q1, q2, q3⟩ := hm2 x hx
        have hne : st.nx ≠ x.2 := fun e => (hmn x hx).2 e.symm
        refine ⟨⟨?_, by rw [look_putS, if_neg hne]; exact q2⟩, by have := hsum x hx; omega⟩
        rcases q1 with q1 | q1
        · left; rw [q1]; simp
        · right; exact q1
    · have hσ' : mapT (subD (newOf ((st.nx, st.nx) :: m))) st.σ = st.σ := hσ _ hm3
      have e1 : subS ((st.nx, st.nx) :: m) (putS st3.S st.nx (AO.lp (if (if i + 1 = k then j else none).isNone then .ready else .done) (if i + 1 = k then j else none) st.σ E.N ps.toList ac bd)) ((st.nx, st.nx) :: m) = (st.nx, AO.lp (if (if i + 1 = k then j else none).isNone then .ready else .done) (if i + 1 = k then j else none) st.σ E.N ps.toList ac bd) :: subS ((st.nx, st.nx) :: m) st3.S m := by
        simp only [subS, look_putS, if_true, subO, hσ']
        rw [subS_put fun x hx => (hmn x hx).2]
      rw [e1, hF]
      have hno : st.nx ∉ namesL (subS ((st.nx, st.nx) :: m) st3.S m) := by
        intro h
        obtain ⟨x, hx, e⟩ := namesL_subS h
        exact (hmn x hx).1 e
      refine ⟨?_, weakS_cons hno hm4 ?_⟩
      · simp only [Abs.look, if_true]
        congr 2
        by_cases h1 : i + 1 = k
        · cases j <;> simp [h1]
        · simp [h1]
      · intro x hx e
        exact hnx (i + 1) (e ▸ List.mem_map.2 ⟨x, hx, rfl⟩)
    · rw [List.all_eq_true]
      intro x hx
      rw [hF]
      rcases List.mem_cons.1 hx with rfl | hx
      · simp [Abs.look]
      · obtain ⟨_, _, q3⟩ := hm2 x hx
        have hne : st.nx ≠ x.1 := fun e => (hmn x hx).1 e.symm
        simp only [Abs.look, if_neg hne]
        exact q3
  have h100 := f100_gen st.nx rows c hc F nf (fun i => decide (¬ (i + 1 = k ∧ j ≠ none))) k hk (fun i h => by simp; omega) (by
      rcases hj with ⟨_, h⟩ | ⟨h1, h2⟩
      · exact .inl h
      · refine .inr ⟨h2, ?_⟩
        have : k - 1 + 1 = k := by omega
        simp [this, h1]) hwF hltF hnf hfrF (by rw [hF]; simp [Abs.look]) (hθF 0 _ fun a ha => idP_of ha) (hinjF k)
      (subS_idm (fun x hx => weakS_mem (hwF k) x hx) (hθF k _ fun a ha => newOf_idm ha)) hround'
  have hF0 : F 0 = (st.nx, AO.lp .ready none st.σ E.N ps.toList ac bd) :: S 0 := by
    rw [hF]
    by_cases h0 : 0 = k
    · have hjn : j = none := by
        rcases hj with ⟨h, _⟩ | ⟨_, h⟩
        · exact h
        · omega
      simp [h0, hjn]
    · simp [h0]
  have hlater : ∀ i, ∀ a ∈ namesL (F i), a ∉ namesL (F 0) → nf 0 ≤ a := by
    intro i
    induction i with
    | zero => intro a h1 h2; exact absurd h1 h2
    | succ i ih =>
      intro a h1 h2
      by_cases h3 : a ∈ namesL (F i)
      · exact ih a h3 h2
      · have hm0 : nf 0 ≤ nf i := by
          clear h1 h2 h3 ih
          induction i with
          | zero => exact Nat.le_refl _
          | succ i ih => exact Nat.le_trans ih (hnf i)
        rcases (hmemF (i + 1) a).1 h1 with h4 | h4
        · exact absurd ((hmemF i a).2 (.inl h4)) h3
        · exact Nat.le_trans hm0 (hfr i a h4 fun h5 => h3 ((hmemF i a).2 (.inr h5)))
  have hm0k : nf 0 ≤ nf k := by
    clear hK hround hround' h100 hj hk hF hF0 hmemF hwF hθF hinjF hltF hfrF hltB hlater
    induction k with
    | zero => exact Nat.le_refl _
    | succ i ih => exact Nat.le_trans ih (hnf i)
  refine W.iq ?_
  refine W.rangeFunc (k := 100) (args := [.yl st.nx, .ep [rowsV rows], .ep [.v (.int .i64 c)]]) (pre := F 0) (post := F k) (d := .tup []) (nx' := nf k) (by unfold inRd; rw [hrd]; trivial) (by rw [hv]; rfl) h100 ⟨?_, by omega, ?_⟩ ?_
  · intro x hx
    rw [hF0] at hx
    rcases List.mem_cons.1 hx with rfl | hx
    · simp [Abs.look]
    · have hne : st.nx ≠ x.1 := fun e => hnx 0 (e ▸ List.mem_map.2 ⟨x, hx, rfl⟩)
      simp only [Abs.look, if_neg hne]
      exact weakS_mem hS0 x hx
  · intro x hx hn
    have h1 := hlater k x.1 (List.mem_map.2 ⟨x, hx, rfl⟩) (look_none.1 hn)
    exact ⟨by omega, hltF k x hx⟩
  · have hlk : Abs.look (F k) st.nx = some (AO.lp (if j ≠ none then .done else .ready) j st.σ E.N ps.toList ac bd) := by
      rw [hF]; simp [Abs.look]
    refine ⟨(if j ≠ none then .done else .ready), j, st.σ, E.N, ps.toList, ac, bd, by rw [look_putAll, hlk]; rfl, by split <;> simp, ?_⟩
    have hS' : weakS (delS (putAll (delAll ((st.nx, AO.lp .ready none st.σ E.N ps.toList ac bd) :: st.S) (namesL (F 0))) (F k)) st.nx) (S k) := by
      have hlo : ∀ x ∈ S k, Abs.look (F k) x.1 = some x.2 := by
        intro x hx
        exact weakS_mem (hwF k) x (by rw [hF]; simp [hx])
      have : ∀ T : Store, (∀ x ∈ T, x.1 ≠ st.nx ∧ Abs.look (F k) x.1 = some x.2) → weakS (delS (putAll (delAll ((st.nx, AO.lp .ready none st.σ E.N ps.toList ac bd) :: st.S) (namesL (F 0))) (F k)) st.nx) T := by
        intro T
        induction T with
        | nil => intro _; trivial
        | cons x r ih =>
          intro h
          obtain ⟨a, o⟩ := x
          have h1 := h (a, o) (by simp)
          exact ⟨by rw [look_delS, if_neg (fun e => h1.1 e.symm), look_putAll, h1.2]; rfl, ih fun x hx => h x (by simp [hx])⟩
      exact this (S k) fun x hx => ⟨fun e => hnx k (e ▸ List.mem_map.2 ⟨x, hx, rfl⟩), hlo x hx⟩
    have hInto : Into E ⟨st.σ, delS (putAll (delAll ((st.nx, AO.lp .ready none st.σ E.N ps.toList ac bd) :: st.S) (namesL (F 0))) (F k)) st.nx, nf k, st.ds⟩ ⟨st.σ, S k, nf k, st.ds⟩ := fun a w g hs => ⟨g, hs.del (S k) fun l o h => weakS_look hS' h⟩
    cases j with
    | none =>
      obtain ⟨st', hi, q⟩ := (show IQ E Q .normal ⟨st.σ, S k, nf k, st.ds⟩ from hK)
      exact iq (hInto.trans hi) q
    | some cc => exact W.into hInto ((show W E cc ⟨st.σ, S k, nf k, st.ds⟩ Q from hK).mono fun e st' q => iq Into.refl q)
end Go.Proofs.YtjgooecohepkoaaGreatDoor
namespace Go.Proofs.YtjgooecohepkoaaGreatDoor
open Go Go.Abs
set_option linter.unusedSimpArgs false
set_option maxHeartbeats 2000000
/-! ### Rows that are selected -/
def isTab (v : Val) : Bool := v.kind == 5 && rightV v
theorem f65_ok (v : Val) (hs : ∀ c ∈ v.cols, c.length ≤ 1000000) : FnOK sys 65 [.agg (encV v)] [] (.v (.bool (isTab v))) [] := by
  have h60 := f60_ok v hs
  obtain ⟨kd, s, dn, ds, num, cols, rows⟩ := v
  refine FnOK.intro Tryz.f65 (by kernel_rfl) rfl rfl [.tmp 2] rfl 0 rfl (Nat.le_of_ble_eq_true rfl) rfl rfl fun E hN h0 => W.code (N := 10) [1] hN ?_
  simp only [encV] at h60 ⊢
  cases e : (kd == 5) with
  | false =>
    repeat (first | refine st_end rfl ?_ | ((first | refine st1 fun K k => ?_ | refine st2 fun K k => ?_ | refine st3 rfl fun K k => ?_ | refine st4 fun K k => ?_); simp only [go_sem, e]; refine k _ _ _ _ _ _ ?_; clear k K))
    refine Done.t1 ?_
    simp only [go_sem, isTab, Val.kind, e, Bool.false_and]
  | true =>
    repeat (first | refine st_end rfl ?_ | ((first | refine st1 fun K k => ?_ | refine st2 fun K k => ?_ | refine st3 rfl fun K k => ?_ | refine st4 fun K k => ?_); simp only [go_sem, e]; refine k _ _ _ _ _ _ ?_; clear k K))
    (first | refine st1 fun K k => ?_ | refine st3 rfl fun K k => ?_); simp only [go_sem]; refine callP (h60) ?_; refine k _ _ _ _ _ _ ?_; clear k K
    repeat (first | refine st_end rfl ?_ | ((first | refine st1 fun K k => ?_ | refine st2 fun K k => ?_ | refine st3 rfl fun K k => ?_ | refine st4 fun K k => ?_); simp only [go_sem]; refine k _ _ _ _ _ _ ?_; clear k K))
    refine Done.t1 ?_
    simp only [go_sem, isTab, Val.kind, e]
theorem f68_ok (v : Val) (hv : v.held) : FnOK sys 68 [.agg (encV v)] [] (.v (.bool (isTab v))) [] := by
  have h63 := f63_ok v hv
  obtain ⟨kd, s, dn, ds, num, cols, rows⟩ := v
  refine FnOK.intro Tryz.f68 (by kernel_rfl) rfl rfl [.tmp 2] rfl 0 rfl (Nat.le_of_ble_eq_true rfl) rfl rfl fun E hN h0 => W.code (N := 12) [1] hN ?_
  obtain ⟨q, hq⟩ : ∃ q, rightV (.mk kd s dn ds num cols rows) = q := ⟨_, rfl⟩
  rw [hq] at h63
  simp only [encV] at h63 ⊢
  repeat (first | refine st_end rfl ?_ | ((first | refine st1 fun K k => ?_ | refine st2 fun K k => ?_ | refine st3 rfl fun K k => ?_ | refine st4 fun K k => ?_); simp only [go_sem]; refine k _ _ _ _ _ _ ?_; clear k K))
  (first | refine st1 fun K k => ?_ | refine st3 rfl fun K k => ?_); simp only [go_sem]; refine callP (h63) ?_; refine k _ _ _ _ _ _ ?_; clear k K
  cases q with
  | false =>
    repeat (first | refine st_end rfl ?_ | ((first | refine st1 fun K k => ?_ | refine st2 fun K k => ?_ | refine st3 rfl fun K k => ?_ | refine st4 fun K k => ?_); simp only [go_sem]; refine k _ _ _ _ _ _ ?_; clear k K))
    refine Done.t1 ?_
    simp only [go_sem, isTab, hq, Bool.and_false]
  | true =>
    repeat (first | refine st_end rfl ?_ | ((first | refine st1 fun K k => ?_ | refine st2 fun K k => ?_ | refine st3 rfl fun K k => ?_ | refine st4 fun K k => ?_); simp only [go_sem]; refine k _ _ _ _ _ _ ?_; clear k K))
    refine Done.t1 ?_
    simp only [go_sem, isTab, Val.kind, hq, Bool.and_true]
noncomputable def whereC (cols : List (List UInt8)) (rows : List (List Val)) (col : List UInt8) (v : Val) : Val × Int :=
  if col ∈ cols then (.mk 5 [] 0 0 0 cols (rows.filter (hitR (ix cols col) v)), 0) else (zeroV, 13)
noncomputable def whereT (t : Val) (col : List UInt8) (v : Val) : Val × Int :=
  if isTab t then (match t with | .mk _ _ _ _ _ cols rows => whereC cols rows col v) else (zeroV, 14)
theorem isTab_rows {kd : Int} {s : List UInt8} {dn ds num : Int} {cols : List (List UInt8)} {rows : List (List Val)} (h : isTab (.mk kd s dn ds num cols rows) = true) : ∀ r ∈ rows, r.length = cols.length := by
  simp only [isTab, Val.kind, Bool.and_eq_true, beq_iff_eq] at h
  obtain ⟨rfl, h⟩ := h
  simp only [rightV, if_true, Bool.and_eq_true] at h
  exact rowsR_len h.2
theorem isTab_len {kd : Int} {s : List UInt8} {dn ds num : Int} {cols : List (List UInt8)} {rows : List (List Val)} (h : isTab (.mk kd s dn ds num cols rows) = true) : cols.length ≤ 8 ∧ rows.length ≤ 100 := by
  simp only [isTab, Val.kind, Bool.and_eq_true, beq_iff_eq] at h
  obtain ⟨rfl, h⟩ := h
  simp only [rightV, if_true, Bool.and_eq_true, rowsR, decide_eq_true_eq] at h
  exact h.2.1.1
open Classical in
/-- The reference's Where. -/
theorem f35_ok (t : Val) (col : List UInt8) (v : Val) (ht : t.held) (hsm : Small t) :
    FnOK sys 35 [.agg (encV t), .s col, .agg (encV v)] [] (.tup [.agg (encV (whereT t col v).1), .v (.int .i64 (whereT t col v).2)]) [] := by
  have h68 := f68_ok t ht
  obtain ⟨kd0, s0, dn0, ds0, num0, cols, rows⟩ := t
  obtain ⟨kd, s, dn, ds, num, cs, rs⟩ := v
  obtain ⟨_, _, _, _, _, _, _, hl1, hl2, hl3, hl4⟩ := id hsm
  have hrl : encRs rows = rows.map fun r => [rowV r] := by rw [encRs_map, List.map_map]; rfl
  cases hr : isTab (.mk kd0 s0 dn0 ds0 num0 cols rows) with
  | false =>
    have e : whereT (.mk kd0 s0 dn0 ds0 num0 cols rows) col (.mk kd s dn ds num cs rs) = (zeroV, 14) := by simp [whereT, hr]
    rw [e]
    refine FnOK.leRes ?_ (zeroTup 14)
    rw [hr] at h68
    simp only [encV] at h68 ⊢
    refine FnOK.intro Tryz.f35 (by kernel_rfl) rfl rfl [.cell 6 33, .tmp 7] rfl 0 rfl (Nat.le_of_ble_eq_true rfl) rfl rfl fun E hN h0 => W.code (N := 58) [3, 5, 53] hN ?_
    repeat (first | refine st_end rfl ?_ | ((first | refine st1 fun K k => ?_ | refine st2 fun K k => ?_ | refine st3 rfl fun K k => ?_ | refine st4 fun K k => ?_); simp only [go_sem]; refine k _ _ _ _ _ _ ?_; clear k K))
    (first | refine st1 fun K k => ?_ | refine st3 rfl fun K k => ?_); simp only [go_sem]; refine callP (h68) ?_; refine k _ _ _ _ _ _ ?_; clear k K
    repeat (first | refine st_end rfl ?_ | ((first | refine st1 fun K k => ?_ | refine st2 fun K k => ?_ | refine st3 rfl fun K k => ?_ | refine st4 fun K k => ?_); simp only [go_sem]; refine k _ _ _ _ _ _ ?_; clear k K))
    refine Done.mk (.inr rfl) Into.refl ?_ [] 0 ?_ ?_ ?_ ?_
    · rfl
    · rfl
    · simp only [go_sem, zeroA]
    · trivial
    · rfl
  | true =>
  have hlen := isTab_rows hr
  have e : whereT (.mk kd0 s0 dn0 ds0 num0 cols rows) col (.mk kd s dn ds num cs rs) = whereC cols rows col (.mk kd s dn ds num cs rs) := by simp [whereT, hr]
  rw [e]
  rw [hr] at h68
  by_cases hk : col ∈ cols
  case neg =>
    have e : whereC cols rows col (.mk kd s dn ds num cs rs) = (zeroV, 13) := by unfold whereC; rw [if_neg hk]
    rw [e]
    refine FnOK.leRes ?_ (zeroTup 13)
    simp only [encV] at h68 ⊢
    refine FnOK.intro Tryz.f35 (by kernel_rfl) rfl rfl [.cell 6 33, .tmp 7] rfl 0 rfl (Nat.le_of_ble_eq_true rfl) rfl rfl fun E hN h0 => W.code (N := 58) [3, 5, 53] hN ?_
    have n1 := ix_neg hk
    repeat (first | refine st_end rfl ?_ | ((first | refine st1 fun K k => ?_ | refine st2 fun K k => ?_ | refine st3 rfl fun K k => ?_ | refine st4 fun K k => ?_); simp only [go_sem]; refine k _ _ _ _ _ _ ?_; clear k K))
    (first | refine st1 fun K k => ?_ | refine st3 rfl fun K k => ?_); simp only [go_sem]; refine callP (h68) ?_; refine k _ _ _ _ _ _ ?_; clear k K
    repeat (first | refine st_end rfl ?_ | ((first | refine st1 fun K k => ?_ | refine st2 fun K k => ?_ | refine st3 rfl fun K k => ?_ | refine st4 fun K k => ?_); simp only [go_sem]; refine k _ _ _ _ _ _ ?_; clear k K))
    (first | refine st1 fun K k => ?_ | refine st3 rfl fun K k => ?_); simp only [go_sem]; refine callP (f56_ok cols col) ?_; refine k _ _ _ _ _ _ ?_; clear k K
    repeat (first | refine st_end rfl ?_ | ((first | refine st1 fun K k => ?_ | refine st2 fun K k => ?_ | refine st3 rfl fun K k => ?_ | refine st4 fun K k => ?_); simp only [go_sem, n1, decide_true]; refine k _ _ _ _ _ _ ?_; clear k K))
    refine Done.mk (.inr rfl) Into.refl ?_ [] 0 ?_ ?_ ?_ ?_
    · rfl
    · rfl
    · simp only [go_sem, zeroA]
    · trivial
    · rfl
  obtain ⟨i1, i2⟩ := ix_eq hk
  have n1 : ¬ ((ix cols col : Int) < 0) := by omega
  have ew : whereC cols rows col (.mk kd s dn ds num cs rs) = (.mk 5 [] 0 0 0 cols (rows.filter (hitR (ix cols col) (.mk kd s dn ds num cs rs))), 0) := by unfold whereC; rw [if_pos hk]
  have f57 := fun x => f57_ok x (.mk kd s dn ds num cs rs)
  obtain ⟨hit, hhit⟩ : ∃ hit : List Val → Bool, hitR (ix cols col) (.mk kd s dn ds num cs rs) = hit := ⟨_, rfl⟩
  have hhit2 : ∀ (r : List Val) (x : Val), r[ix cols col]? = some x → hit r = decide (x.kind ≠ 0 ∧ x = .mk kd s dn ds num cs rs) := by
    intro r x hx
    rw [← hhit]; unfold hitR; rw [getD_some hx]
  rw [hhit] at ew
  rw [ew]
  have hsub : ∀ i, ((rows.take i).filter hit).length ≤ i := fun i => Nat.le_trans (List.length_filter_le _ _) (by simp; omega)
  have hcopy := f82_ok (.mk 5 [] 0 0 0 cols (rows.filter hit)) (Small.mk _ _ _ _ _ _ _ hl1 (Nat.le_trans (List.length_filter_le _ _) hl2) (fun row h => hl3 row ((List.mem_filter.1 h).1)) (fun row h => hl4 row ((List.mem_filter.1 h).1)))
  have hrl2 : encRs (rows.filter hit) = (rows.filter hit).map fun r => [rowV r] := by rw [encRs_map, List.map_map]; rfl
  refine FnOK.intro Tryz.f35 (by kernel_rfl) rfl rfl [.cell 6 33, .tmp 7] rfl 0 rfl (Nat.le_of_ble_eq_true rfl) (by rfl) rfl fun E hN h0 => W.boundA 0 6 (es := encRs rows) (sz := 1) rfl (by simp [encV]) fun hb => W.code (N := 58) [3, 5, 53] hN ?_
  have hb' : rows.length ≤ 1000000 := hl2
  simp only [encV, hrl, hrl2] at h68 f57 hcopy ⊢
  repeat (first | refine st_end rfl ?_ | ((first | refine st1 fun K k => ?_ | refine st2 fun K k => ?_ | refine st3 rfl fun K k => ?_ | refine st4 fun K k => ?_); simp only [go_sem]; refine k _ _ _ _ _ _ ?_; clear k K))
  (first | refine st1 fun K k => ?_ | refine st3 rfl fun K k => ?_); simp only [go_sem]; refine callP (h68) ?_; refine k _ _ _ _ _ _ ?_; clear k K
  repeat (first | refine st_end rfl ?_ | ((first | refine st1 fun K k => ?_ | refine st2 fun K k => ?_ | refine st3 rfl fun K k => ?_ | refine st4 fun K k => ?_); simp only [go_sem]; refine k _ _ _ _ _ _ ?_; clear k K))
  (first | refine st1 fun K k => ?_ | refine st3 rfl fun K k => ?_); simp only [go_sem]; refine callP (f56_ok cols col) ?_; refine k _ _ _ _ _ _ ?_; clear k K
  repeat (first | refine st_end rfl ?_ | ((first | refine st1 fun K k => ?_ | refine st2 fun K k => ?_ | refine st3 rfl fun K k => ?_ | refine st4 fun K k => ?_); simp only [go_sem, i1, n1, decide_false]; refine k _ _ _ _ _ _ ?_; clear k K))
  refine W.loopP (fun i : Nat => ⟨[(3, .ep [.v (.int .i64 kd0), .s s0, .v (.int .i64 dn0), .v (.int .i64 ds0), .v (.int .i64 num0), strsD cols, rowsV rows]), (5, .ep [.v (.int .i64 kd), .s s, .v (.int .i64 dn), .v (.int .i64 ds), .v (.int .i64 num), strsD cs, .sl (encRs rs) 1]), (6, .ref 0 0), (9, .v (.int .i64 (ix cols col))), (10, .ref 1 0), (11, .v (.int .i64 i))],
      [(0, .box [.v (.int .i64 0), .s [], .v (.int .i64 0), .v (.int .i64 0), .v (.int .i64 0), .v (.slice none 0 0), .v (.slice none 0 0)]), (1, .box [.v (.int .i64 5), .s [], .v (.int .i64 0), .v (.int .i64 0), .v (.int .i64 0), strsD cols, .own 2 ((rows.take i).filter hit).length]), (2, .row 45 1 (((rows.take i).filter hit).map fun r => [rowV r]))], 3, []⟩)
    (fun i => i ≤ rows.length) (fun i => rows.length - i) 0 (Nat.zero_le _) ((Into.nilCell 1 6 45 1 rfl rfl).trans (Into.le ?_ ?_ (Nat.le_refl _) rfl)) fun i hi => W.code (N := 58) [3, 5, 53] hN ?_
  · simp only [go_sem, i1]
    exact LeD.refl _
  · simp only [go_sem, List.take_zero, List.filter_nil, List.map_nil, List.length_nil]
  repeat (first | refine st_end rfl ?_ | ((first | refine st1 fun K k => ?_ | refine st2 fun K k => ?_ | refine st3 rfl fun K k => ?_ | refine st4 fun K k => ?_); simp only [go_sem]; refine k _ _ _ _ _ _ ?_; clear k K))
  refine st_cond fun A B a b => ?_; simp only [go_sem]; refine ⟨fun g => a ?_, fun g => b ?_⟩ <;> clear a b A B
  · obtain ⟨r, hr⟩ := getS (l := rows) (i := i) (by omega)
    have hrl := hlen r (List.mem_of_getElem? hr)
    obtain ⟨x, hx⟩ := getS (l := r) (i := ix cols col) (by omega)
    have hh := hhit2 r x hx
    have hf := f57 x
    have e5 : rows.take (i + 1) = rows.take i ++ [r] := by rw [List.take_add_one, hr]; rfl
    have w5 : IntKind.wrap .i64 ((i : Int) + 1) = ((i + 1 : Nat) : Int) := wrapTo (by omega)
    have hs1 := hsub i
    have b1 : ((rows.take i).filter hit).length + 1 ≤ maxLen := by unfold maxLen; omega
    have b2 : (((rows.take i).filter hit).length + 1) * 24 ≤ 140737488355328 := by omega
    rw [← hh] at hf
    repeat (first | refine st_end rfl ?_ | ((first | refine st1 fun K k => ?_ | refine st2 fun K k => ?_ | refine st3 rfl fun K k => ?_ | refine st4 fun K k => ?_); simp only [go_sem, hr, hx, encV_len, encV_take, Nat.le_refl]; refine k _ _ _ _ _ _ ?_; clear k K))
    (first | refine st1 fun K k => ?_ | refine st3 rfl fun K k => ?_); simp only [go_sem]; refine callP (hf) ?_; refine k _ _ _ _ _ _ ?_; clear k K
    cases hq : hit r with
    | false =>
      have e6 : (rows.take (i + 1)).filter hit = (rows.take i).filter hit := by rw [e5, List.filter_append]; simp [hq]
      repeat (first | refine st_end rfl ?_ | ((first | refine st1 fun K k => ?_ | refine st2 fun K k => ?_ | refine st3 rfl fun K k => ?_ | refine st4 fun K k => ?_); simp only [go_sem, w5]; refine k _ _ _ _ _ _ ?_; clear k K))
      refine ⟨i + 1, by omega, by omega, Into.le ?_ ?_ (Nat.le_refl _) rfl⟩
      · simp only [go_sem]
      · simp only [go_sem, e6]
    | true =>
      have e6 : (rows.take (i + 1)).filter hit = (rows.take i).filter hit ++ [r] := by rw [e5, List.filter_append]; simp [hq]
      repeat (first | refine st_end rfl ?_ | ((first | refine st1 fun K k => ?_ | refine st2 fun K k => ?_ | refine st3 rfl fun K k => ?_ | refine st4 fun K k => ?_); simp only [go_sem, w5, hr, b1, b2]; refine k _ _ _ _ _ _ ?_; clear k K))
      refine ⟨i + 1, by omega, by omega, (Into.ren h0 [(0, 0), (1, 1), (2, 3)] 3 rfl).trans (Into.le ?_ ?_ (Nat.le_refl _) rfl)⟩
      · simp only [go_sem, newOf]
      · simp only [go_sem, newOf, e6, List.length_append, List.length_cons, List.length_nil]
  · obtain rfl : i = rows.length := by omega
    refine iq (Into.frz [2] ?_) ?_
    · simp only [go_sem]
      intro e he
      obtain ⟨q, _, rfl⟩ := List.mem_map.1 he; rfl
    simp only [go_sem, List.take_length, List.length_map]
    repeat (first | refine st_end rfl ?_ | ((first | refine st1 fun K k => ?_ | refine st2 fun K k => ?_ | refine st3 rfl fun K k => ?_ | refine st4 fun K k => ?_); simp only [go_sem]; refine k _ _ _ _ _ _ ?_; clear k K))
    (first | refine st1 fun K k => ?_ | refine st3 rfl fun K k => ?_); simp only [go_sem]; refine callP (hcopy) ?_; refine k _ _ _ _ _ _ ?_; clear k K
    repeat (first | refine st_end rfl ?_ | ((first | refine st1 fun K k => ?_ | refine st2 fun K k => ?_ | refine st3 rfl fun K k => ?_ | refine st4 fun K k => ?_); simp only [go_sem]; refine k _ _ _ _ _ _ ?_; clear k K))
    refine Done.mk (.inr rfl) Into.refl ?_ [] 0 ?_ ?_ ?_ ?_
    · rfl
    · rfl
    · simp only [go_sem]
    · trivial
    · rfl
end Go.Proofs.YtjgooecohepkoaaGreatDoor
namespace Go.Proofs.YtjgooecohepkoaaGreatDoor
open Go Go.Abs
set_option linter.unusedSimpArgs false
set_option maxHeartbeats 2000000
/-! ### table.Where -/
/-- The name of the rows that were taken, before the i-th round. -/
def rnm (hit : List Val → Bool) (rows : List (List Val)) : Nat → Nat
  | 0 => 2
  | i + 1 => if hit (rows.getD i []) then i + 4 else rnm hit rows i
theorem rnm_or (hit : List Val → Bool) (rows : List (List Val)) : ∀ i, rnm hit rows i = 2 ∨ (4 ≤ rnm hit rows i ∧ rnm hit rows i < i + 4)
  | 0 => .inl rfl
  | i + 1 => by
    have := rnm_or hit rows i
    unfold rnm
    split <;> omega
theorem beq_ne {a b : Nat} (h : a ≠ b) : Nat.beq a b = false := by
  cases q : Nat.beq a b with
  | false => rfl
  | true => exact absurd (Nat.eq_of_beq_eq_true q) h
/-- The same check, the order of the operations first: names need be known only where it is open. -/
def ordB2 (bits : List Nat) (sk : List Sk) : Bool :=
  (List.range sk.length).all fun j => (List.range j).all fun i =>
    match sk[i]?, sk[j]? with
    | some a, some b => (bits.getD j 0).testBit i || !(a.confl b)
    | _, _ => true
theorem st_end2 {Y : Sy} {E : Env Y} {N : Nat} {fz : List Nat} {ops : Array Oper} {draw : Bool} {K : RT} {σ : List (Nat × D)} {S : Store} {nx : Nat} {acc : List Sk}
    (h1 : (ops.toList.all fun o => match o.dst with | some t => Nat.blt t N | none => true) = true) (h2 : backB ops.toList = true) (h3 : ordB2 (bef ops.toList []) acc.reverse = true) (h : K σ S nx) : VO E N fz ops draw K [] σ S nx acc := by
  have e : ordB2 (bef ops.toList []) acc.reverse = ordB (bef ops.toList []) acc.reverse := by
    unfold ordB2 ordB
    congr 1
    funext j
    congr 1
    funext i
    cases acc.reverse[i]? with
    | none => rfl
    | some a =>
      cases acc.reverse[j]? with
      | none => rfl
      | some b => exact Bool.or_comm _ _
  refine st_end ?_ h
  unfold chk
  rw [Bool.and_eq_true]
  refine ⟨h1, ?_⟩
  rw [h2, ← e, h3]
  cases draw <;> rfl
open Classical in
theorem f34_ok (t : Val) (col : List UInt8) (v : Val) (hs : ∀ c ∈ t.cols, c.length ≤ 1000000) (hsm : Small t) :
    FnOK sys 34 [.agg (encV t), .s col, .agg (encV v)] [] (.tup [.agg (encV (whereT t col v).1), .v (.int .i64 (whereT t col v).2)]) [] := by
  have h65 := f65_ok t hs
  obtain ⟨kd0, s0, dn0, ds0, num0, cols, rows⟩ := t
  obtain ⟨kd, s, dn, ds, num, cs, rs⟩ := v
  obtain ⟨_, _, _, _, _, _, _, hl1, hl2, hl3, hl4⟩ := id hsm
  have hrl : encRs rows = rows.map fun r => [rowV r] := by rw [encRs_map, List.map_map]; rfl
  cases hr : isTab (.mk kd0 s0 dn0 ds0 num0 cols rows) with
  | false =>
    have e : whereT (.mk kd0 s0 dn0 ds0 num0 cols rows) col (.mk kd s dn ds num cs rs) = (zeroV, 14) := by simp [whereT, hr]
    rw [e]
    refine FnOK.leRes ?_ (zeroTup 14)
    rw [hr] at h65
    simp only [encV] at h65 ⊢
    refine FnOK.intro Tryz.f34 (by kernel_rfl) rfl rfl [.cell 6 33, .tmp 7] rfl 0 rfl (Nat.le_of_ble_eq_true rfl) rfl rfl fun E hN h0 => W.code (N := 47) [3, 5] hN ?_
    repeat (first | refine st_end rfl ?_ | ((first | refine st1 fun K k => ?_ | refine st2 fun K k => ?_ | refine st3 rfl fun K k => ?_ | refine st4 fun K k => ?_); simp only [go_sem]; refine k _ _ _ _ _ _ ?_; clear k K))
    (first | refine st1 fun K k => ?_ | refine st3 rfl fun K k => ?_); simp only [go_sem]; refine callP (h65) ?_; refine k _ _ _ _ _ _ ?_; clear k K
    repeat (first | refine st_end rfl ?_ | ((first | refine st1 fun K k => ?_ | refine st2 fun K k => ?_ | refine st3 rfl fun K k => ?_ | refine st4 fun K k => ?_); simp only [go_sem]; refine k _ _ _ _ _ _ ?_; clear k K))
    refine Done.mk (.inr rfl) Into.refl ?_ [] 0 ?_ ?_ ?_ ?_
    · rfl
    · rfl
    · simp only [go_sem, zeroA]
    · trivial
    · rfl
  | true =>
  have hlen := isTab_rows hr
  have e : whereT (.mk kd0 s0 dn0 ds0 num0 cols rows) col (.mk kd s dn ds num cs rs) = whereC cols rows col (.mk kd s dn ds num cs rs) := by simp [whereT, hr]
  rw [e]
  rw [hr] at h65
  by_cases hk : col ∈ cols
  case neg =>
    have e : whereC cols rows col (.mk kd s dn ds num cs rs) = (zeroV, 13) := by unfold whereC; rw [if_neg hk]
    rw [e]
    refine FnOK.leRes ?_ (zeroTup 13)
    simp only [encV] at h65 ⊢
    refine FnOK.intro Tryz.f34 (by kernel_rfl) rfl rfl [.cell 6 33, .tmp 7] rfl 0 rfl (Nat.le_of_ble_eq_true rfl) rfl rfl fun E hN h0 => W.code (N := 47) [3, 5] hN ?_
    have n1 := ix_neg hk
    repeat (first | refine st_end rfl ?_ | ((first | refine st1 fun K k => ?_ | refine st2 fun K k => ?_ | refine st3 rfl fun K k => ?_ | refine st4 fun K k => ?_); simp only [go_sem]; refine k _ _ _ _ _ _ ?_; clear k K))
    (first | refine st1 fun K k => ?_ | refine st3 rfl fun K k => ?_); simp only [go_sem]; refine callP (h65) ?_; refine k _ _ _ _ _ _ ?_; clear k K
    repeat (first | refine st_end rfl ?_ | ((first | refine st1 fun K k => ?_ | refine st2 fun K k => ?_ | refine st3 rfl fun K k => ?_ | refine st4 fun K k => ?_); simp only [go_sem]; refine k _ _ _ _ _ _ ?_; clear k K))
    (first | refine st1 fun K k => ?_ | refine st3 rfl fun K k => ?_); simp only [go_sem]; refine callP (f52_ok cols col) ?_; refine k _ _ _ _ _ _ ?_; clear k K
    repeat (first | refine st_end rfl ?_ | ((first | refine st1 fun K k => ?_ | refine st2 fun K k => ?_ | refine st3 rfl fun K k => ?_ | refine st4 fun K k => ?_); simp only [go_sem, n1, decide_true]; refine k _ _ _ _ _ _ ?_; clear k K))
    refine Done.mk (.inr rfl) Into.refl ?_ [] 0 ?_ ?_ ?_ ?_
    · rfl
    · rfl
    · simp only [go_sem, zeroA]
    · trivial
    · rfl
  obtain ⟨i1, i2⟩ := ix_eq hk
  have n1 : ¬ ((ix cols col : Int) < 0) := by omega
  have ew : whereC cols rows col (.mk kd s dn ds num cs rs) = (.mk 5 [] 0 0 0 cols (rows.filter (hitR (ix cols col) (.mk kd s dn ds num cs rs))), 0) := by unfold whereC; rw [if_pos hk]
  have f54 := fun x => f54_ok x (.mk kd s dn ds num cs rs)
  obtain ⟨hit, hhit⟩ : ∃ hit : List Val → Bool, hitR (ix cols col) (.mk kd s dn ds num cs rs) = hit := ⟨_, rfl⟩
  have hhit2 : ∀ (r : List Val) (x : Val), r[ix cols col]? = some x → hit r = decide (x.kind ≠ 0 ∧ x = .mk kd s dn ds num cs rs) := by
    intro r x hx
    rw [← hhit]; unfold hitR; rw [getD_some hx]
  rw [hhit] at ew
  rw [ew]
  have hsub : ∀ i, ((rows.take i).filter hit).length ≤ i := fun i => Nat.le_trans (List.length_filter_le _ _) (by simp; omega)
  have hcopy := f55_ok (.mk 5 [] 0 0 0 cols (rows.filter hit)) (Small.mk _ _ _ _ _ _ _ hl1 (Nat.le_trans (List.length_filter_le _ _) hl2) (fun row h => hl3 row (List.mem_filter.1 h).1) (fun row h => hl4 row (List.mem_filter.1 h).1))
  have hrl2 : encRs (rows.filter hit) = (rows.filter hit).map fun r => [rowV r] := by rw [encRs_map, List.map_map]; rfl
  refine FnOK.introR Tryz.f34 (by kernel_rfl) rfl rfl [.cell 6 33, .tmp 7] rfl 0 rfl (Nat.le_of_ble_eq_true rfl) (by rfl) rfl fun E hN hrd h0 => W.code (N := 47) [3, 5] hN ?_
  have hb' : rows.length ≤ 1000000 := hl2
  obtain ⟨rn, hrn⟩ : ∃ rn : Nat → Nat, ∀ i, rn i = rnm hit rows i := ⟨_, fun _ => rfl⟩
  have rn0 : rn 0 = 2 := by rw [hrn]; rfl
  have rnS : ∀ i, rn (i + 1) = if hit (rows.getD i []) then i + 4 else rn i := fun i => by rw [hrn, hrn]; rfl
  have rnO : ∀ i, rn i = 2 ∨ (4 ≤ rn i ∧ rn i < i + 4) := fun i => by rw [hrn]; exact rnm_or hit rows i
  clear hrn
  simp only [encV, hrl, hrl2] at h65 f54 hcopy ⊢
  repeat (first | refine st_end rfl ?_ | ((first | refine st1 fun K k => ?_ | refine st2 fun K k => ?_ | refine st3 rfl fun K k => ?_ | refine st4 fun K k => ?_); simp only [go_sem]; refine k _ _ _ _ _ _ ?_; clear k K))
  (first | refine st1 fun K k => ?_ | refine st3 rfl fun K k => ?_); simp only [go_sem]; refine callP (h65) ?_; refine k _ _ _ _ _ _ ?_; clear k K
  repeat (first | refine st_end rfl ?_ | ((first | refine st1 fun K k => ?_ | refine st2 fun K k => ?_ | refine st3 rfl fun K k => ?_ | refine st4 fun K k => ?_); simp only [go_sem]; refine k _ _ _ _ _ _ ?_; clear k K))
  (first | refine st1 fun K k => ?_ | refine st3 rfl fun K k => ?_); simp only [go_sem]; refine callP (f52_ok cols col) ?_; refine k _ _ _ _ _ _ ?_; clear k K
  repeat (first | refine st_end rfl ?_ | ((first | refine st1 fun K k => ?_ | refine st2 fun K k => ?_ | refine st3 rfl fun K k => ?_ | refine st4 fun K k => ?_); simp only [go_sem, i1, n1, decide_false]; refine k _ _ _ _ _ _ ?_; clear k K))
  (first | refine st1 fun K k => ?_ | refine st3 rfl fun K k => ?_); simp only [go_sem]; refine callP (f53_ok rows (ix cols col)) ?_; refine k _ _ _ _ _ _ ?_; clear k K
  repeat (first | refine st_end rfl ?_ | ((first | refine st1 fun K k => ?_ | refine st2 fun K k => ?_ | refine st3 rfl fun K k => ?_ | refine st4 fun K k => ?_); simp only [go_sem]; refine k _ _ _ _ _ _ ?_; clear k K))
  refine W.into ((Into.nilCell 1 6 45 1 rfl rfl).trans (Into.le (st' := ⟨[(3, .ep [.v (.int .i64 kd0), .s s0, .v (.int .i64 dn0), .v (.int .i64 ds0), .v (.int .i64 num0), strsD cols, rowsV rows]), (5, .ep [.v (.int .i64 kd), .s s, .v (.int .i64 dn), .v (.int .i64 ds), .v (.int .i64 num), strsD cs, .sl (encRs rs) 1]), (6, .ref 0 0), (9, .ref 1 0), (29, .fn (.func 100) [] [.ep [rowsV rows], .ep [.v (.int .i64 (ix cols col))]])],
      [(0, .box [.v (.int .i64 0), .s [], .v (.int .i64 0), .v (.int .i64 0), .v (.int .i64 0), .v (.slice none 0 0), .v (.slice none 0 0)]), (1, .box [.v (.int .i64 5), .s [], .v (.int .i64 0), .v (.int .i64 0), .v (.int .i64 0), strsD cols, .own 2 0]), (2, .row 45 1 [])], 3, []⟩) ?_ ?_ (Nat.le_refl _) rfl)) ?_
  · simp only [go_sem, i1]
  · simp only [go_sem]
  obtain ⟨S, hS⟩ : ∃ S : Nat → Store, ∀ i, S i = [(0, .box [.v (.int .i64 0), .s [], .v (.int .i64 0), .v (.int .i64 0), .v (.int .i64 0), .v (.slice none 0 0), .v (.slice none 0 0)]), (1, .box [.v (.int .i64 5), .s [], .v (.int .i64 0), .v (.int .i64 0), .v (.int .i64 0), strsD cols, .own (rn i) ((rows.take i).filter hit).length]), (rn i, .row 45 1 (((rows.take i).filter hit).map fun r => [rowV r]))] := ⟨_, fun _ => rfl⟩
  have hSn : ∀ i, namesL (S i) = [0, 1, rn i] := fun i => by rw [hS]; rfl
  have hnn : ∀ i, (rn i ≠ 0 ∧ rn i ≠ 1 ∧ rn i ≠ 3 ∧ 0 ≠ rn i ∧ 1 ≠ rn i ∧ 3 ≠ rn i) := fun i => by have := rnO i; omega
  refine W.column2 rows (ix cols col) (fun r hr => by rw [hlen r hr]; omega) hrd (by rfl) rfl (by rw [hN]; rfl) S (fun i => i + 4) [0, 1] rfl (fun i => by omega) ?_ ?_ ?_ ?_ ?_ ?_ ?_ ?_ rows.length (Nat.le_refl _) none (.inl ⟨rfl, rfl⟩) ?_ ?_
  · rw [hS]; simp only [rn0]; simp only [go_sem, List.take_zero, List.filter_nil, List.map_nil, List.length_nil]
  · intro i
    have := hnn i
    rw [hS]; simp only [go_sem, this]
  · intro i a ha
    rw [hSn] at ha
    simp only [List.mem_cons, List.not_mem_nil, or_false] at ha
    have := rnO i
    show a ≠ 3 ∧ a < i + 4
    omega
  · intro i
    have h3 := hnn i
    rw [hS]
    simp [idm, injB, beq_ne h3.1, beq_ne h3.2.1, beq_ne (show 1 ≠ 0 by decide)]
  · intro i a ha hb
    rw [hSn] at ha hb
    simp only [List.mem_cons, List.not_mem_nil, or_false] at ha hb
    rw [rnS] at ha
    show i + 4 ≤ a
    split at ha <;> omega
  · intro i a ha
    rw [hSn]
    simp only [List.mem_cons, List.not_mem_nil, or_false] at ha ⊢
    omega
  · intro θ hθ
    have t0 := hθ 0 (by simp)
    have t1 := hθ 1 (by simp)
    simp only [go_sem, t0, t1]
  · intro i θ hθ
    rw [hSn] at hθ
    have t0 := hθ (rn i) (by simp)
    rw [hS]
    simp only [go_sem, t0]
  · intro i r x hi hri hx E' hN' hrd' h0' L
    have hh := hhit2 r x hx
    have hf := f54 x
    have e5 : rows.take (i + 1) = rows.take i ++ [r] := by rw [List.take_add_one, hri]; rfl
    have hs1 := hsub i
    have b1 : ((rows.take i).filter hit).length + 1 ≤ maxLen := by unfold maxLen; omega
    have b2 : (((rows.take i).filter hit).length + 1) * 24 ≤ 140737488355328 := by omega
    have eg : rows.getD i [] = r := by rw [List.getD_eq_getElem?_getD, hri]; rfl
    have rS := rnS i
    rw [eg] at rS
    rw [← hh] at hf
    have hn3 := hnn i
    have hr3 := rnO i
    have hjj : (if i + 1 = rows.length then (none : Option Code) else none) = none := by split <;> rfl
    rw [hjj, hS i]
    obtain ⟨b, hb⟩ : ∃ b, rn i = b := ⟨_, rfl⟩
    have hnq : i + 4 ≠ 0 ∧ 0 ≠ i + 4 ∧ i + 4 ≠ 1 ∧ 1 ≠ i + 4 ∧ i + 4 ≠ 2 ∧ 2 ≠ i + 4 ∧ i + 4 ≠ 3 ∧ 3 ≠ i + 4 ∧ i + 4 ≠ b ∧ b ≠ i + 4 ∧ i + 4 + 1 ≠ b ∧ b ≠ i + 4 + 1 ∧ i + 4 + 2 ≠ b ∧ b ≠ i + 4 + 2 ∧ i + 4 ≠ i + 4 + 1 ∧ i + 4 ≠ i + 4 + 2 ∧ b < i + 4 + 1 + 1 ∧ i + 4 + 1 < i + 4 + 1 + 1 ∧ i ≠ i + 1 ∧ i ≠ i + 2 := by omega
    rw [hb] at hn3 ⊢
    obtain ⟨kd2, s2, dn2, ds2, num2, cs2, rs2⟩ := x
    simp only [encV] at hf ⊢
    simp only [zipT, setT]
    refine W.code (N := 47) [3, 5, 40] (hN'.trans hN) ?_
    repeat (first | refine st_end rfl ?_ | ((first | refine st1 fun K k => ?_ | refine st2 fun K k => ?_ | refine st3 rfl fun K k => ?_ | refine st4 fun K k => ?_); simp only [go_sem, hn3, hnq]; refine k _ _ _ _ _ _ ?_; clear k K))
    refine ⟨_, Into.refl, rfl, fun L' => W.code (N := 47) [3, 5, 40] (hN'.trans hN) ?_⟩
    simp only [go_sem, hn3, hnq]
    repeat (first | refine st_end rfl ?_ | ((first | refine st1 fun K k => ?_ | refine st2 fun K k => ?_ | refine st3 rfl fun K k => ?_ | refine st4 fun K k => ?_); simp only [go_sem, hn3, hnq]; refine k _ _ _ _ _ _ ?_; clear k K))
    (first | refine st1 fun K k => ?_ | refine st3 rfl fun K k => ?_); simp only [go_sem, hn3, hnq]
    refine callP hf ?_
    refine k _ _ _ _ _ _ ?_; clear k K
    cases hqq : hit r with
    | false =>
      rw [hqq] at rS
      have e6 : (rows.take (i + 1)).filter hit = (rows.take i).filter hit := by rw [e5, List.filter_append]; simp [hqq]
      repeat (first | refine st_end rfl ?_ | ((first | refine st1 fun K k => ?_ | refine st2 fun K k => ?_ | refine st3 rfl fun K k => ?_ | refine st4 fun K k => ?_); simp only [go_sem, hn3, hnq]; refine k _ _ _ _ _ _ ?_; clear k K))
      refine ⟨rfl, _, Into.refl, rfl, [(0, 0), (1, 1), (b, b)], ?_, ?_, ?_, ?_⟩
      · simp [injB, beq_ne, hn3]
      · rw [hS, rS, hb]
        simp [Abs.look, hn3, hnq]
      · simp only [go_sem, hn3, newOf]
      · rw [hS, rS, hb]
        simp only [go_sem, hn3, hnq, subS, newOf, e6]
    | true =>
      rw [hqq] at rS
      have e6 : (rows.take (i + 1)).filter hit = (rows.take i).filter hit ++ [r] := by rw [e5, List.filter_append]; simp [hqq]
      repeat (first | refine st_end rfl ?_ | ((first | refine st1 fun K k => ?_ | refine st2 fun K k => ?_ | refine st3 rfl fun K k => ?_ | refine st4 fun K k => ?_); simp only [go_sem, hri, b1, b2, hn3, hnq, vAppendO]; refine k _ _ _ _ _ _ ?_; clear k K))
      refine st_end2 rfl rfl (by kernel_rfl) ?_
      refine ⟨rfl, _, Into.refl, rfl, [(0, 0), (1, 1), (i + 4, i + 4 + 1 + 1)], ?_, ?_, ?_, ?_⟩
      · rfl
      · rw [hS, rS]
        simp [Abs.look, hn3, hnq]
      · simp only [go_sem]
      · rw [hS, rS]
        simp only [go_sem, hn3, hnq, subS, newOf, e6, List.length_append, List.length_cons, List.length_nil, List.map_append, List.map_cons, List.map_nil]
  · rw [hS]
    obtain ⟨b, hb⟩ : ∃ b, rn rows.length = b := ⟨_, rfl⟩
    have hn3 := hnn rows.length
    rw [hb] at hn3 ⊢
    refine iq (Into.frz [b] ?_) ?_
    · simp only [go_sem, hn3]
      intro e he
      obtain ⟨q, _, rfl⟩ := List.mem_map.1 he; rfl
    simp only [go_sem, List.take_length, List.length_map, hn3]
    repeat (first | refine st_end rfl ?_ | ((first | refine st1 fun K k => ?_ | refine st2 fun K k => ?_ | refine st3 rfl fun K k => ?_ | refine st4 fun K k => ?_); simp only [go_sem, hn3]; refine k _ _ _ _ _ _ ?_; clear k K))
    (first | refine st1 fun K k => ?_ | refine st3 rfl fun K k => ?_); simp only [go_sem]; refine callP (hcopy) ?_; refine k _ _ _ _ _ _ ?_; clear k K
    repeat (first | refine st_end rfl ?_ | ((first | refine st1 fun K k => ?_ | refine st2 fun K k => ?_ | refine st3 rfl fun K k => ?_ | refine st4 fun K k => ?_); simp only [go_sem]; refine k _ _ _ _ _ _ ?_; clear k K))
    refine Done.mk (.inr rfl) Into.refl ?_ [] 0 ?_ ?_ ?_ ?_
    · rfl
    · rfl
    · simp only [go_sem]
    · trivial
    · rfl
end Go.Proofs.YtjgooecohepkoaaGreatDoor
namespace Go.Proofs.YtjgooecohepkoaaGreatDoor
open Go Go.Abs
set_option linter.unusedSimpArgs false
set_option maxHeartbeats 2000000
/-! ### Sets of tables -/
/-- The order of texts. -/
def cmpS (a b : List UInt8) : Int := if Op.bytesLess a b then -1 else if a = b then 0 else 1
theorem f127_ok (a : List UInt8) : FnOK sys 127 [.s a] [] (.v (.bool false)) [] := by
  refine FnOK.intro Tryz.f127 (by kernel_rfl) rfl rfl [.tmp 2] rfl 0 rfl (Nat.le_of_ble_eq_true rfl) rfl rfl fun E hN h0 => W.code (N := 6) [] hN ?_
  repeat (first | refine st_end rfl ?_ | ((first | refine st1 fun K k => ?_ | refine st2 fun K k => ?_ | refine st3 rfl fun K k => ?_ | refine st4 fun K k => ?_); simp only [go_sem]; refine k _ _ _ _ _ _ ?_; clear k K))
  refine Done.t1 ?_
  simp only [go_sem, beq_self_eq_true, Bool.not_true]
theorem f86_ok (a b : List UInt8) : FnOK sys 86 [.s a, .s b] [] (.v (.int .i64 (cmpS a b))) [] := by
  refine FnOK.intro Tryz.f86 (by kernel_rfl) rfl rfl [.tmp 4] rfl 0 rfl (Nat.le_of_ble_eq_true rfl) rfl rfl fun E hN h0 => W.code (N := 20) [] hN ?_
  repeat (first | refine st_end rfl ?_ | ((first | refine st1 fun K k => ?_ | refine st2 fun K k => ?_ | refine st3 rfl fun K k => ?_ | refine st4 fun K k => ?_); simp only [go_sem]; refine k _ _ _ _ _ _ ?_; clear k K))
  (first | refine st1 fun K k => ?_ | refine st3 rfl fun K k => ?_); simp only [go_sem]; refine callP (f127_ok a) ?_; refine k _ _ _ _ _ _ ?_; clear k K
  repeat (first | refine st_end rfl ?_ | ((first | refine st1 fun K k => ?_ | refine st2 fun K k => ?_ | refine st3 rfl fun K k => ?_ | refine st4 fun K k => ?_); simp only [go_sem]; refine k _ _ _ _ _ _ ?_; clear k K))
  (first | refine st1 fun K k => ?_ | refine st3 rfl fun K k => ?_); simp only [go_sem]; refine callP (f127_ok b) ?_; refine k _ _ _ _ _ _ ?_; clear k K
  cases h : Op.bytesLess a b with
  | true =>
    repeat (first | refine st_end rfl ?_ | ((first | refine st1 fun K k => ?_ | refine st2 fun K k => ?_ | refine st3 rfl fun K k => ?_ | refine st4 fun K k => ?_); simp only [go_sem, h]; refine k _ _ _ _ _ _ ?_; clear k K))
    refine Done.t1 ?_
    simp only [go_sem, cmpS, h]
  | false =>
    by_cases e : a = b
    · have e' : (a == b) = true := by simpa using e
      repeat (first | refine st_end rfl ?_ | ((first | refine st1 fun K k => ?_ | refine st2 fun K k => ?_ | refine st3 rfl fun K k => ?_ | refine st4 fun K k => ?_); simp only [go_sem, h, e', Bool.or_true, Bool.not_true]; refine k _ _ _ _ _ _ ?_; clear k K))
      refine Done.t1 ?_
      subst e
      simp [subD, cmpS, h, getT]
    · have e' : (a == b) = false := by simpa using e
      repeat (first | refine st_end rfl ?_ | ((first | refine st1 fun K k => ?_ | refine st2 fun K k => ?_ | refine st3 rfl fun K k => ?_ | refine st4 fun K k => ?_); simp only [go_sem, h, e', Bool.or_false, Bool.not_false]; refine k _ _ _ _ _ _ ?_; clear k K))
      refine Done.t1 ?_
      simp [subD, cmpS, h, e, getT]
theorem f85_ok (n1 : List UInt8) (c1 : List (List UInt8)) (r1 : List (List Val)) (n2 : List UInt8) (c2 : List (List UInt8)) (r2 : List (List Val)) : FnOK sys 85 [.agg [.s n1, strsD c1, rowsV r1], .agg [.s n2, strsD c2, rowsV r2]] [] (.v (.int .i64 (cmpS n1 n2))) [] := by
  refine FnOK.intro Tryz.f85 (by kernel_rfl) rfl rfl [.tmp 4] rfl 0 rfl (Nat.le_of_ble_eq_true rfl) rfl rfl fun E hN h0 => W.code (N := 10) [2, 3] hN ?_
  repeat (first | refine st_end rfl ?_ | ((first | refine st1 fun K k => ?_ | refine st2 fun K k => ?_ | refine st3 rfl fun K k => ?_ | refine st4 fun K k => ?_); simp only [go_sem]; refine k _ _ _ _ _ _ ?_; clear k K))
  (first | refine st1 fun K k => ?_ | refine st3 rfl fun K k => ?_); simp only [go_sem]; refine callP (f86_ok n1 n2) ?_; refine k _ _ _ _ _ _ ?_; clear k K
  repeat (first | refine st_end rfl ?_ | ((first | refine st1 fun K k => ?_ | refine st2 fun K k => ?_ | refine st3 rfl fun K k => ?_ | refine st4 fun K k => ?_); simp only [go_sem]; refine k _ _ _ _ _ _ ?_; clear k K))
  refine Done.t1 ?_
  simp only [go_sem]
theorem f83_ok (name : List UInt8) (cols : List (List UInt8)) (rows : List (List Val)) (hs : Small (.mk 5 [] 0 0 0 cols rows)) : FnOK sys 83 [.agg [.s name, strsD cols, rowsV rows]] [] (.agg [.s name, strsD cols, rowsV rows]) [] := by
  have h61 := f61_ok name cols rows
  have h55 := f55_ok _ hs
  have hrl : encRs rows = rows.map fun r => [rowV r] := by rw [encRs_map, List.map_map]; rfl
  simp only [encV, hrl] at h61 h55
  refine FnOK.intro Tryz.f83 (by kernel_rfl) rfl rfl [.cell 2 28] rfl 0 rfl (Nat.le_of_ble_eq_true rfl) rfl rfl fun E hN h0 => W.code (N := 14) [1] hN ?_
  repeat (first | refine st_end rfl ?_ | ((first | refine st1 fun K k => ?_ | refine st2 fun K k => ?_ | refine st3 rfl fun K k => ?_ | refine st4 fun K k => ?_); simp only [go_sem]; refine k _ _ _ _ _ _ ?_; clear k K))
  (first | refine st1 fun K k => ?_ | refine st3 rfl fun K k => ?_); simp only [go_sem]; refine callP (h61) ?_; refine k _ _ _ _ _ _ ?_; clear k K
  repeat (first | refine st_end rfl ?_ | ((first | refine st1 fun K k => ?_ | refine st2 fun K k => ?_ | refine st3 rfl fun K k => ?_ | refine st4 fun K k => ?_); simp only [go_sem]; refine k _ _ _ _ _ _ ?_; clear k K))
  (first | refine st1 fun K k => ?_ | refine st3 rfl fun K k => ?_); simp only [go_sem]; refine callP (h55) ?_; refine k _ _ _ _ _ _ ?_; clear k K
  repeat (first | refine st_end rfl ?_ | ((first | refine st1 fun K k => ?_ | refine st2 fun K k => ?_ | refine st3 rfl fun K k => ?_ | refine st4 fun K k => ?_); simp only [go_sem]; refine k _ _ _ _ _ _ ?_; clear k K))
  refine Done.mk (.inr rfl) Into.refl ?_ [] 0 ?_ ?_ ?_ ?_
  · rfl
  · rfl
  · simp only [go_sem]
  · trivial
  · rfl
end Go.Proofs.YtjgooecohepkoaaGreatDoor
