/- Contracts of the functions that the statement reaches. -/
import Derived.Test.YtjgooecohepkoaaGreatDoorSAJ
set_option linter.unusedVariables false
set_option linter.unusedSimpArgs false
namespace Go.Proofs.YtjgooecohepkoaaGreatDoor
open Go Go.Abs
set_option linter.unusedSimpArgs false
/-! ### The reference's closure, plain -/
theorem bytesLess_lt : ∀ (x y : List UInt8), Op.bytesLess x y = decide (x < y)
  | [], [] => by simp [Op.bytesLess]
  | _ :: _, [] => by simp [Op.bytesLess]
  | [], _ :: _ => by simp [Op.bytesLess]
  | a :: x, b :: y => by
    rw [Op.bytesLess, bytesLess_lt x y]
    simp only [List.cons_lt_cons_iff]
    by_cases h1 : a < b <;> by_cases h2 : a = b <;> by_cases h3 : x < y <;> simp [h1, h2, h3]
theorem insR_nil (x : List UInt8) : insR [] x = [x] := rfl
theorem insR_cons (y x : List UInt8) (r : List (List UInt8)) : insR (y :: r) x = if y < x then y :: insR r x else if y = x then y :: r else x :: y :: r := by
  unfold insR headN
  simp only [List.takeWhile_cons, bytesLess_lt]
  by_cases h : y < x
  · simp only [h, decide_true, if_true, List.length_cons, List.getElem?_cons_succ, List.take_succ_cons, List.drop_succ_cons, List.cons_append]
    split <;> rfl
  · simp [h]
def SS (l : List (List UInt8)) : Prop := l.Pairwise fun a b => a < b
theorem mem_insR {x s : List UInt8} : ∀ {l : List (List UInt8)}, s ∈ insR l x ↔ s ∈ l ∨ s = x
  | [] => by simp [insR_nil]
  | y :: r => by
    have ih := mem_insR (x := x) (s := s) (l := r)
    rw [insR_cons]
    split
    · simp only [List.mem_cons, ih, or_assoc]
    · split
      · rename_i h; subst h
        simp only [List.mem_cons]
        constructor
        · exact .inl
        · rintro (h | h)
          · exact h
          · exact .inl h
      · simp only [List.mem_cons]
        constructor
        · rintro (h | h | h)
          · exact .inr h
          · exact .inl (.inl h)
          · exact .inl (.inr h)
        · rintro ((h | h) | h)
          · exact .inr (.inl h)
          · exact .inr (.inr h)
          · exact .inl h
theorem lt_of_not {x y : List UInt8} (h1 : ¬ y < x) (h2 : y ≠ x) : x < y := by
  rcases Classical.em (x < y) with h | h
  · exact h
  · exact absurd (List.le_antisymm (List.not_lt.1 h) (List.not_lt.1 h1)) h2
theorem SS_insR (x : List UInt8) : ∀ {l : List (List UInt8)}, SS l → SS (insR l x)
  | [], _ => by simp [insR_nil, SS]
  | y :: r, h => by
    obtain ⟨h1, h2⟩ := List.pairwise_cons.1 h
    rw [insR_cons]
    split
    · rename_i hlt
      refine List.pairwise_cons.2 ⟨fun z hz => ?_, SS_insR x h2⟩
      rcases mem_insR.1 hz with hz | rfl
      · exact h1 z hz
      · exact hlt
    · split
      · exact h
      · rename_i h3 h4
        have hxy := lt_of_not h3 h4
        refine List.pairwise_cons.2 ⟨fun z hz => ?_, h⟩
        rcases List.mem_cons.1 hz with rfl | hz
        · exact hxy
        · exact List.lt_trans hxy (h1 z hz)
theorem insR_same {x : List UInt8} : ∀ {l : List (List UInt8)}, SS l → x ∈ l → insR l x = l
  | [], _, h => by simp at h
  | y :: r, h, hx => by
    obtain ⟨h1, h2⟩ := List.pairwise_cons.1 h
    rw [insR_cons]
    rcases List.mem_cons.1 hx with rfl | hx
    · rw [if_neg (List.lt_irrefl x), if_pos rfl]
    · rw [if_pos (h1 x hx), insR_same h2 hx]
def oneR (k : List (List UInt8)) (d : DP) : List (List UInt8) := if d.src.all (fun s => decide (s ∈ k)) then insR k d.dst else k
def stepR (l : List DP) (k : List (List UInt8)) : List (List UInt8) := l.foldl oneR k
def iterR (l : List DP) : Nat → List (List UInt8) → List (List UInt8)
  | 0, k => k
  | n + 1, k => iterR l n (stepR l k)
def insAllR (k l : List (List UInt8)) : List (List UInt8) := l.foldl insR k
/-- The reference's closure. -/
def refC (l : List DP) (src : List (List UInt8)) : List (List UInt8) := iterR l (l.length + 1) (insAllR [] src)
theorem oneR_sub {k : List (List UInt8)} {d : DP} {s : List UInt8} (h : s ∈ k) : s ∈ oneR k d := by
  unfold oneR; split
  · exact mem_insR.2 (.inl h)
  · exact h
theorem oneR_SS {k : List (List UInt8)} {d : DP} (h : SS k) : SS (oneR k d) := by
  unfold oneR; split
  · exact SS_insR _ h
  · exact h
theorem stepR_sub {s : List UInt8} : ∀ {l : List DP} {k : List (List UInt8)}, s ∈ k → s ∈ stepR l k
  | [], _, h => h
  | e :: r, k, h => stepR_sub (l := r) (k := oneR k e) (oneR_sub h)
theorem stepR_SS : ∀ {l : List DP} {k : List (List UInt8)}, SS k → SS (stepR l k)
  | [], _, h => h
  | e :: r, k, h => stepR_SS (l := r) (k := oneR k e) (oneR_SS h)
theorem iterR_sub {l : List DP} {s : List UInt8} : ∀ {n : Nat} {k : List (List UInt8)}, s ∈ k → s ∈ iterR l n k
  | 0, _, h => h
  | n + 1, k, h => iterR_sub (n := n) (k := stepR l k) (stepR_sub h)
theorem iterR_SS {l : List DP} : ∀ {n : Nat} {k : List (List UInt8)}, SS k → SS (iterR l n k)
  | 0, _, h => h
  | n + 1, k, h => iterR_SS (n := n) (k := stepR l k) (stepR_SS h)
theorem insAllR_mem {s : List UInt8} : ∀ {l k : List (List UInt8)}, s ∈ insAllR k l ↔ s ∈ k ∨ s ∈ l
  | [], k => by simp [insAllR]
  | x :: r, k => by
    have := insAllR_mem (s := s) (l := r) (k := insR k x)
    simp only [insAllR, List.foldl_cons] at this ⊢
    rw [this, mem_insR, List.mem_cons, or_assoc]
theorem insAllR_SS : ∀ {l k : List (List UInt8)}, SS k → SS (insAllR k l)
  | [], _, h => h
  | x :: r, k, h => insAllR_SS (l := r) (k := insR k x) (SS_insR x h)
theorem stepR_hits {d : DP} : ∀ {l : List DP} {k : List (List UInt8)}, d ∈ l → (∀ s ∈ d.src, s ∈ k) → d.dst ∈ stepR l k
  | e :: r, k, h, hs => by
    rcases List.mem_cons.1 h with rfl | h
    · refine stepR_sub (l := r) (k := oneR k d) ?_
      have : d.src.all (fun s => decide (s ∈ k)) = true := by simpa [List.all_eq_true] using hs
      rw [oneR, if_pos this]
      exact mem_insR.2 (.inr rfl)
    · exact stepR_hits (l := r) (k := oneR k e) h fun s h' => oneR_sub (hs s h')
theorem stepR_least {P : List UInt8 → Prop} : ∀ {l : List DP} {k : List (List UInt8)}, (∀ d ∈ l, (∀ s ∈ d.src, P s) → P d.dst) → (∀ s ∈ k, P s) → ∀ s ∈ stepR l k, P s
  | [], _, _, h => h
  | e :: r, k, hd, h => by
    refine stepR_least (l := r) (k := oneR k e) (fun d h' => hd d (by simp [h'])) ?_
    intro s hs
    unfold oneR at hs
    split at hs
    · rename_i hall
      rcases mem_insR.1 hs with hs | rfl
      · exact h s hs
      · refine hd e (by simp) fun s hs => h s ?_
        rw [List.all_eq_true] at hall
        simpa using hall s hs
    · exact h s hs
theorem iterR_least {l : List DP} {P : List UInt8 → Prop} (hd : ∀ d ∈ l, (∀ s ∈ d.src, P s) → P d.dst) : ∀ {n : Nat} {k : List (List UInt8)}, (∀ s ∈ k, P s) → ∀ s ∈ iterR l n k, P s
  | 0, _, h => h
  | n + 1, k, h => iterR_least hd (n := n) (k := stepR l k) (stepR_least hd h)
/-- Closed. -/
def Shut (l : List DP) (k : List (List UInt8)) : Prop := ∀ d ∈ l, (∀ s ∈ d.src, s ∈ k) → d.dst ∈ k
theorem stepR_shut {k : List (List UInt8)} (hs : SS k) : ∀ {l : List DP}, Shut l k → stepR l k = k
  | [], _ => rfl
  | e :: r, h => by
    have he : oneR k e = k := by
      unfold oneR
      split
      · rename_i hall
        rw [List.all_eq_true] at hall
        exact insR_same hs (h e (by simp) fun s hs => by simpa using hall s hs)
      · rfl
    show stepR r (oneR k e) = k
    rw [he]
    exact stepR_shut hs fun d hd => h d (by simp [hd])
theorem iterR_shut {l : List DP} {k : List (List UInt8)} (hs : SS k) (h : Shut l k) : ∀ n, iterR l n k = k
  | 0 => rfl
  | n + 1 => by
    show iterR l n (stepR l k) = k
    rw [stepR_shut hs h, iterR_shut hs h n]
theorem left_step {l : List DP} {k : List (List UInt8)} (h : ¬ Shut l k) : left l (stepR l k) < left l k := by
  unfold Shut at h
  have ⟨d, hd⟩ := Classical.not_forall.1 h
  have ⟨hm, hd2⟩ := Classical.not_imp.1 hd
  have ⟨hs, hn⟩ := Classical.not_imp.1 hd2
  have hin := stepR_hits hm hs
  have key : ∀ (m : List DP), d ∈ m → (m.filter fun d => !decide (d.dst ∈ stepR l k)).length < (m.filter fun d => !decide (d.dst ∈ k)).length := by
    have le : ∀ (m : List DP), (m.filter fun d => !decide (d.dst ∈ stepR l k)).length ≤ (m.filter fun d => !decide (d.dst ∈ k)).length := by
      intro m
      induction m with
      | nil => simp
      | cons e r ih =>
        by_cases h1 : e.dst ∈ k
        · have := stepR_sub (l := l) h1
          simp [List.filter_cons, h1, this, ih]
        · by_cases h2 : e.dst ∈ stepR l k
          · simp [List.filter_cons, h1, h2]; omega
          · simp [List.filter_cons, h1, h2, ih]
    intro m hm
    induction m with
    | nil => simp at hm
    | cons e r ih =>
      rcases List.mem_cons.1 hm with rfl | hm
      · have := le r
        simp [List.filter_cons, hn, hin]; omega
      · have := ih hm
        by_cases h1 : e.dst ∈ k
        · have h2 := stepR_sub (l := l) h1
          simp [List.filter_cons, h1, h2, this]
        · by_cases h2 : e.dst ∈ stepR l k
          · simp [List.filter_cons, h1, h2]; omega
          · simp [List.filter_cons, h1, h2, this]
  exact key l hm
theorem iterR_done {l : List DP} : ∀ {n : Nat} {k : List (List UInt8)}, SS k → left l k ≤ n → Shut l (iterR l n k)
  | 0, k, _, h => by
    rcases Classical.em (Shut l k) with hc | hc
    · exact hc
    · have := left_step hc; omega
  | n + 1, k, hs, h => by
    rcases Classical.em (Shut l k) with hc | hc
    · rw [iterR_shut hs hc]; exact hc
    · have := left_step hc
      exact iterR_done (n := n) (stepR_SS hs) (by omega)
theorem refC_SS (l : List DP) (src : List (List UInt8)) : SS (refC l src) := iterR_SS (insAllR_SS List.Pairwise.nil)
theorem refC_shut (l : List DP) (src : List (List UInt8)) : Shut l (refC l src) :=
  iterR_done (insAllR_SS List.Pairwise.nil) (Nat.le_succ_of_le (left_le _ _))
theorem refC_src {l : List DP} {src : List (List UInt8)} {s : List UInt8} (h : s ∈ src) : s ∈ refC l src := iterR_sub (insAllR_mem.2 (.inr h))
theorem refC_least {l : List DP} {src : List (List UInt8)} {P : List UInt8 → Prop} (hs : ∀ s ∈ src, P s) (hd : ∀ d ∈ l, (∀ s ∈ d.src, P s) → P d.dst) : ∀ s ∈ refC l src, P s :=
  iterR_least hd fun s h => by rcases insAllR_mem.1 h with h | h; simp at h; exact hs s h
theorem SS_nodup {l : List (List UInt8)} (h : SS l) : l.Nodup := List.Pairwise.imp (fun hab he => by rw [he] at hab; exact List.lt_irrefl _ hab) h
theorem SS_pairwise {l : List (List UInt8)} (h : SS l) : l.Pairwise fun a b => leS' a b = true := List.Pairwise.imp (fun hab => by simpa [leS'] using List.le_of_lt hab) h
theorem perm_of_mem {l m : List (List UInt8)} (h1 : l.Nodup) (h2 : m.Nodup) (h : ∀ s, s ∈ l ↔ s ∈ m) : l.Perm m := by
  rw [List.perm_iff_count]
  intro a
  by_cases ha : a ∈ l
  · rw [List.Nodup.count h1, List.Nodup.count h2, if_pos ha, if_pos ((h a).1 ha)]
  · rw [List.count_eq_zero_of_not_mem ha, List.count_eq_zero_of_not_mem fun h' => ha ((h a).2 h')]
theorem refC_eq (l : List DP) (src : List (List UInt8)) : refC l src = sortS (closL l src) := by
  refine sortS_unique (perm_of_mem (SS_nodup (refC_SS l src)) (closL_ok l src (fun _ => True) (fun _ _ => trivial) (fun _ _ => trivial)).1 fun s => ⟨?_, ?_⟩) (SS_pairwise (refC_SS l src))
  · exact refC_least (P := fun s => s ∈ closL l src) (fun _ h => closL_src h) (closL_closed l src) s
  · exact closL_least (P := fun s => s ∈ refC l src) (fun _ h => refC_src h) (refC_shut l src) s
theorem iterR_succ (l : List DP) : ∀ (n : Nat) (k : List (List UInt8)), iterR l (n + 1) k = stepR l (iterR l n k)
  | 0, _ => rfl
  | n + 1, k => iterR_succ l n (stepR l k)
theorem insR_len (x : List UInt8) : ∀ (l : List (List UInt8)), (insR l x).length ≤ l.length + 1
  | [] => by simp [insR_nil]
  | y :: r => by
    have := insR_len x r
    rw [insR_cons]
    split
    · simp; exact this
    · split <;> simp
theorem insAllR_len : ∀ (l k : List (List UInt8)), (insAllR k l).length ≤ k.length + l.length
  | [], k => by simp [insAllR]
  | x :: r, k => by
    have h1 := insAllR_len r (insR k x)
    have h2 := insR_len x k
    simp only [insAllR, List.foldl_cons, List.length_cons] at h1 ⊢
    omega
theorem oneR_len (k : List (List UInt8)) (d : DP) : (oneR k d).length ≤ k.length + 1 := by
  unfold oneR; split
  · exact insR_len _ _
  · omega
theorem stepR_len : ∀ (l : List DP) (k : List (List UInt8)), (stepR l k).length ≤ k.length + l.length
  | [], k => by simp [stepR]
  | d :: r, k => by
    have h1 := stepR_len r (oneR k d)
    have h2 := oneR_len k d
    simp only [stepR, List.foldl_cons, List.length_cons] at h1 ⊢
    omega
theorem iterR_len (l : List DP) : ∀ (n : Nat) (k : List (List UInt8)), (iterR l n k).length ≤ k.length + n * l.length
  | 0, k => by simp [iterR]
  | n + 1, k => by
    have h1 := iterR_len l n (stepR l k)
    have h2 := stepR_len l k
    have h3 : (n + 1) * l.length = n * l.length + l.length := Nat.succ_mul _ _
    show (iterR l n (stepR l k)).length ≤ _
    omega
theorem stepR_take {l : List DP} {d : DP} {j : Nat} (k : List (List UInt8)) (h : l[j]? = some d) : stepR (l.take (j + 1)) k = oneR (stepR (l.take j) k) d := by
  have e5 : l.take (j + 1) = l.take j ++ [d] := by rw [List.take_add_one, h]; rfl
  rw [e5, stepR, List.foldl_append]
  rfl
end Go.Proofs.YtjgooecohepkoaaGreatDoor
namespace Go.Proofs.YtjgooecohepkoaaGreatDoor
open Go Go.Abs
set_option linter.unusedSimpArgs false
/-- The reference's Closure. -/
theorem f31_ok (l : List DP) (src : List (List UInt8)) (hl : l.length ≤ 1000) (hs : src.length ≤ 1000) (hd : ∀ d ∈ l, d.src.length ≤ 1000) : FnOK sys 31 [depsD l, strsD src] [] (strsD (refC l src)) [] := by
  refine FnOK.intro Tryz.f31 (by kernel_rfl) rfl rfl [.tmp 4] rfl 0 rfl (Nat.le_of_ble_eq_true rfl) rfl rfl fun E hN h0 => W.code (N := 68) [] hN ?_
  repeat (first | refine st_end rfl ?_ | ((first | refine st_op fun K k => ?_ | refine st_op0 fun K k => ?_ | refine st_opT fun K k => ?_ | refine st_grd rfl fun A B C k k' k2 => ?_ | refine st_cond fun A B k k' => ?_); simp only [go_sem, reduceIte, Nat.reduceEqDiff, Nat.reduceAdd, Nat.reduceMul, Nat.reduceSub, Nat.reduceLT, Nat.reduceLeDiff, Int.reduceToNat, reduceCtorEq, Int.reduceEq, Int.reduceBEq, Int.reduceLE, Int.reduceLT]; first | (refine k _ _ _ _ _ ?_; clear k K) | (refine k ?_; clear k k' k2 A B C) | (refine k' ?_; clear k k' k2 A B C) | (refine k2 ?_; clear k k' k2 A B C) | (refine k ?_; clear k k' A B) | (refine k' ?_; clear k k' A B)))
  refine W.loopP (fun i : Nat => ⟨[(0, depsD l), (1, strsD src), (5, strsD (insAllR [] (src.take i))), (6, .v (.int .i64 i))], [], 0, []⟩)
    (fun i => i ≤ src.length) (fun i => src.length - i) 0 (Nat.zero_le _) (Into.le ?_ trivial (Nat.le_refl _) rfl) fun i hi => W.code (N := 68) [] hN ?_
  · simp only [go_sem, reduceIte, Nat.reduceEqDiff, Nat.reduceAdd, Nat.reduceMul, Nat.reduceSub, Nat.reduceLT, Nat.reduceLeDiff, Int.reduceToNat, reduceCtorEq, Int.reduceEq, Int.reduceBEq, Int.reduceLE, Int.reduceLT]
    exact ⟨LeD.nil 1, LeD.refl _⟩
  repeat (first | refine st_end rfl ?_ | ((first | refine st_op fun K k => ?_ | refine st_op0 fun K k => ?_ | refine st_opT fun K k => ?_ | refine st_grd rfl fun A B C k k' k2 => ?_ | refine st_cond fun A B k k' => ?_); simp only [go_sem, reduceIte, Nat.reduceEqDiff, Nat.reduceAdd, Nat.reduceMul, Nat.reduceSub, Nat.reduceLT, Nat.reduceLeDiff, Int.reduceToNat, reduceCtorEq, Int.reduceEq, Int.reduceBEq, Int.reduceLE, Int.reduceLT]; first | (refine k _ _ _ _ _ ?_; clear k K) | (refine k ?_; clear k k' k2 A B C) | (refine k' ?_; clear k k' k2 A B C) | (refine k2 ?_; clear k k' k2 A B C) | (refine k ?_; clear k k' A B) | (refine k' ?_; clear k k' A B)))
  refine st_cond fun A B a b => ?_; simp only [go_sem, reduceIte, Nat.reduceEqDiff, Nat.reduceAdd, Nat.reduceMul, Nat.reduceSub, Nat.reduceLT, Nat.reduceLeDiff, Int.reduceToNat, reduceCtorEq, Int.reduceEq, Int.reduceBEq, Int.reduceLE, Int.reduceLT]; refine ⟨fun g => a ?_, fun g => b ?_⟩ <;> clear a b A B
  · obtain ⟨x, hx⟩ := getS (l := src) (i := i) (by omega)
    have hlen := insAllR_len (src.take i) []
    have hti : (src.take i).length = i := by simp; omega
    have w5 : IntKind.wrap .i64 ((i : Int) + 1) = ((i + 1 : Nat) : Int) := wrapTo (by omega)
    have e5 : src.take (i + 1) = src.take i ++ [x] := by rw [List.take_add_one, hx]; rfl
    have e6 : insAllR [] (src.take (i + 1)) = insR (insAllR [] (src.take i)) x := by rw [e5, insAllR, List.foldl_append]; rfl
    repeat (first | refine st_end rfl ?_ | ((first | refine st_op fun K k => ?_ | refine st_op0 fun K k => ?_ | refine st_opT fun K k => ?_ | refine st_grd rfl fun A B C k k' k2 => ?_ | refine st_cond fun A B k k' => ?_); simp only [go_sem, reduceIte, Nat.reduceEqDiff, Nat.reduceAdd, Nat.reduceMul, Nat.reduceSub, Nat.reduceLT, Nat.reduceLeDiff, Int.reduceToNat, reduceCtorEq, Int.reduceEq, Int.reduceBEq, Int.reduceLE, Int.reduceLT, hx]; first | (refine k _ _ _ _ _ ?_; clear k K) | (refine k ?_; clear k k' k2 A B C) | (refine k' ?_; clear k k' k2 A B C) | (refine k2 ?_; clear k k' k2 A B C) | (refine k ?_; clear k k' A B) | (refine k' ?_; clear k k' A B)))
    (first | refine st_op fun K k => ?_ | refine st_opT fun K k => ?_); simp only [go_sem, reduceIte, Nat.reduceEqDiff, Nat.reduceAdd, Nat.reduceMul, Nat.reduceSub, Nat.reduceLT, Nat.reduceLeDiff, Int.reduceToNat, reduceCtorEq, Int.reduceEq, Int.reduceBEq, Int.reduceLE, Int.reduceLT]; refine callP (f80_ok (insAllR [] (src.take i)) x (by simp at hlen; omega)) ?_; refine k _ _ _ _ _ ?_; clear k K
    repeat (first | refine st_end rfl ?_ | ((first | refine st_op fun K k => ?_ | refine st_op0 fun K k => ?_ | refine st_opT fun K k => ?_ | refine st_grd rfl fun A B C k k' k2 => ?_ | refine st_cond fun A B k k' => ?_); simp only [go_sem, reduceIte, Nat.reduceEqDiff, Nat.reduceAdd, Nat.reduceMul, Nat.reduceSub, Nat.reduceLT, Nat.reduceLeDiff, Int.reduceToNat, reduceCtorEq, Int.reduceEq, Int.reduceBEq, Int.reduceLE, Int.reduceLT, w5]; first | (refine k _ _ _ _ _ ?_; clear k K) | (refine k ?_; clear k k' k2 A B C) | (refine k' ?_; clear k k' k2 A B C) | (refine k2 ?_; clear k k' k2 A B C) | (refine k ?_; clear k k' A B) | (refine k' ?_; clear k k' A B)))
    refine ⟨i + 1, by omega, by omega, Into.le ?_ trivial (Nat.le_refl _) rfl⟩
    · simp only [go_sem, reduceIte, Nat.reduceEqDiff, Nat.reduceAdd, Nat.reduceMul, Nat.reduceSub, Nat.reduceLT, Nat.reduceLeDiff, Int.reduceToNat, reduceCtorEq, Int.reduceEq, Int.reduceBEq, Int.reduceLE, Int.reduceLT, e6]
  obtain rfl : i = src.length := by omega
  refine iq Into.refl ?_
  obtain ⟨k0, hk0⟩ : ∃ k, insAllR [] src = k := ⟨_, rfl⟩
  have hk0l : k0.length ≤ 1000 := by
    have := insAllR_len src []
    rw [hk0] at this
    simp at this; omega
  simp only [go_sem, reduceIte, Nat.reduceEqDiff, Nat.reduceAdd, Nat.reduceMul, Nat.reduceSub, Nat.reduceLT, Nat.reduceLeDiff, Int.reduceToNat, reduceCtorEq, Int.reduceEq, Int.reduceBEq, Int.reduceLE, Int.reduceLT, List.take_length, hk0]
  repeat (first | refine st_end rfl ?_ | ((first | refine st_op fun K k => ?_ | refine st_op0 fun K k => ?_ | refine st_opT fun K k => ?_ | refine st_grd rfl fun A B C k k' k2 => ?_ | refine st_cond fun A B k k' => ?_); simp only [go_sem, reduceIte, Nat.reduceEqDiff, Nat.reduceAdd, Nat.reduceMul, Nat.reduceSub, Nat.reduceLT, Nat.reduceLeDiff, Int.reduceToNat, reduceCtorEq, Int.reduceEq, Int.reduceBEq, Int.reduceLE, Int.reduceLT]; first | (refine k _ _ _ _ _ ?_; clear k K) | (refine k ?_; clear k k' k2 A B C) | (refine k' ?_; clear k k' k2 A B C) | (refine k2 ?_; clear k k' k2 A B C) | (refine k ?_; clear k k' A B) | (refine k' ?_; clear k k' A B)))
  refine W.loopP (fun n : Nat => ⟨[(0, depsD l), (5, strsD (iterR l n k0)), (7, .v (.int .i64 n))], [], 0, []⟩)
    (fun n => n ≤ l.length + 1) (fun n => l.length + 1 - n) 0 (Nat.zero_le _) (Into.le ?_ trivial (Nat.le_refl _) rfl) fun n hn => W.code (N := 68) [] hN ?_
  · simp only [go_sem, reduceIte, Nat.reduceEqDiff, Nat.reduceAdd, Nat.reduceMul, Nat.reduceSub, Nat.reduceLT, Nat.reduceLeDiff, Int.reduceToNat, reduceCtorEq, Int.reduceEq, Int.reduceBEq, Int.reduceLE, Int.reduceLT]
    exact ⟨LeD.refl _, LeD.refl _⟩
  have hkn := iterR_len l n k0
  have hmul : n * l.length ≤ 1001 * 1000 := Nat.mul_le_mul (by omega) hl
  repeat (first | refine st_end rfl ?_ | ((first | refine st_op fun K k => ?_ | refine st_op0 fun K k => ?_ | refine st_opT fun K k => ?_ | refine st_grd rfl fun A B C k k' k2 => ?_ | refine st_cond fun A B k k' => ?_); simp only [go_sem, reduceIte, Nat.reduceEqDiff, Nat.reduceAdd, Nat.reduceMul, Nat.reduceSub, Nat.reduceLT, Nat.reduceLeDiff, Int.reduceToNat, reduceCtorEq, Int.reduceEq, Int.reduceBEq, Int.reduceLE, Int.reduceLT]; first | (refine k _ _ _ _ _ ?_; clear k K) | (refine k ?_; clear k k' k2 A B C) | (refine k' ?_; clear k k' k2 A B C) | (refine k2 ?_; clear k k' k2 A B C) | (refine k ?_; clear k k' A B) | (refine k' ?_; clear k k' A B)))
  refine st_cond fun A B a b => ?_; simp only [go_sem, reduceIte, Nat.reduceEqDiff, Nat.reduceAdd, Nat.reduceMul, Nat.reduceSub, Nat.reduceLT, Nat.reduceLeDiff, Int.reduceToNat, reduceCtorEq, Int.reduceEq, Int.reduceBEq, Int.reduceLE, Int.reduceLT]; refine ⟨fun g => a ?_, fun g => b ?_⟩ <;> clear a b A B
  · repeat (first | refine st_end rfl ?_ | ((first | refine st_op fun K k => ?_ | refine st_op0 fun K k => ?_ | refine st_opT fun K k => ?_ | refine st_grd rfl fun A B C k k' k2 => ?_ | refine st_cond fun A B k k' => ?_); simp only [go_sem, reduceIte, Nat.reduceEqDiff, Nat.reduceAdd, Nat.reduceMul, Nat.reduceSub, Nat.reduceLT, Nat.reduceLeDiff, Int.reduceToNat, reduceCtorEq, Int.reduceEq, Int.reduceBEq, Int.reduceLE, Int.reduceLT]; first | (refine k _ _ _ _ _ ?_; clear k K) | (refine k ?_; clear k k' k2 A B C) | (refine k' ?_; clear k k' k2 A B C) | (refine k2 ?_; clear k k' k2 A B C) | (refine k ?_; clear k k' A B) | (refine k' ?_; clear k k' A B)))
    refine W.loopP (fun j : Nat => ⟨[(0, depsD l), (5, strsD (stepR (l.take j) (iterR l n k0))), (7, .v (.int .i64 n)), (8, .v (.int .i64 j))], [], 0, []⟩)
      (fun j => j ≤ l.length) (fun j => l.length - j) 0 (Nat.zero_le _) (Into.le ?_ trivial (Nat.le_refl _) rfl) fun j hj => W.code (N := 68) [] hN ?_
    · simp only [go_sem, reduceIte, Nat.reduceEqDiff, Nat.reduceAdd, Nat.reduceMul, Nat.reduceSub, Nat.reduceLT, Nat.reduceLeDiff, Int.reduceToNat, reduceCtorEq, Int.reduceEq, Int.reduceBEq, Int.reduceLE, Int.reduceLT]
      exact ⟨LeD.refl _, LeD.refl _⟩
    repeat (first | refine st_end rfl ?_ | ((first | refine st_op fun K k => ?_ | refine st_op0 fun K k => ?_ | refine st_opT fun K k => ?_ | refine st_grd rfl fun A B C k k' k2 => ?_ | refine st_cond fun A B k k' => ?_); simp only [go_sem, reduceIte, Nat.reduceEqDiff, Nat.reduceAdd, Nat.reduceMul, Nat.reduceSub, Nat.reduceLT, Nat.reduceLeDiff, Int.reduceToNat, reduceCtorEq, Int.reduceEq, Int.reduceBEq, Int.reduceLE, Int.reduceLT]; first | (refine k _ _ _ _ _ ?_; clear k K) | (refine k ?_; clear k k' k2 A B C) | (refine k' ?_; clear k k' k2 A B C) | (refine k2 ?_; clear k k' k2 A B C) | (refine k ?_; clear k k' A B) | (refine k' ?_; clear k k' A B)))
    refine st_cond fun A B a b => ?_; simp only [go_sem, reduceIte, Nat.reduceEqDiff, Nat.reduceAdd, Nat.reduceMul, Nat.reduceSub, Nat.reduceLT, Nat.reduceLeDiff, Int.reduceToNat, reduceCtorEq, Int.reduceEq, Int.reduceBEq, Int.reduceLE, Int.reduceLT]; refine ⟨fun g => a ?_, fun g => b ?_⟩ <;> clear a b A B
    · obtain ⟨d, hdj⟩ := getS (l := l) (i := j) (by omega)
      have hds := hd d (List.mem_of_getElem? hdj)
      have hkl := stepR_len (l.take j) (iterR l n k0)
      have htj : (l.take j).length = j := by simp; omega
      have e6 := stepR_take (iterR l n k0) hdj
      obtain ⟨kk, hk⟩ : ∃ k, stepR (l.take j) (iterR l n k0) = k := ⟨_, rfl⟩
      rw [hk] at hkl e6
      have w5 : IntKind.wrap .i64 ((j : Int) + 1) = ((j + 1 : Nat) : Int) := wrapTo (by omega)
      repeat (first | refine st_end rfl ?_ | ((first | refine st_op fun K k => ?_ | refine st_op0 fun K k => ?_ | refine st_opT fun K k => ?_ | refine st_grd rfl fun A B C k k' k2 => ?_ | refine st_cond fun A B k k' => ?_); simp only [go_sem, reduceIte, Nat.reduceEqDiff, Nat.reduceAdd, Nat.reduceMul, Nat.reduceSub, Nat.reduceLT, Nat.reduceLeDiff, Int.reduceToNat, reduceCtorEq, Int.reduceEq, Int.reduceBEq, Int.reduceLE, Int.reduceLT, hk]; first | (refine k _ _ _ _ _ ?_; clear k K) | (refine k ?_; clear k k' k2 A B C) | (refine k' ?_; clear k k' k2 A B C) | (refine k2 ?_; clear k k' k2 A B C) | (refine k ?_; clear k k' A B) | (refine k' ?_; clear k k' A B)))
      refine W.loopP (fun m : Nat => ⟨[(0, depsD l), (5, strsD kk), (7, .v (.int .i64 n)), (8, .v (.int .i64 j)), (9, .v (.bool ((d.src.take m).all fun s => decide (s ∈ kk)))), (10, .v (.int .i64 m))], [], 0, []⟩)
        (fun m => m ≤ d.src.length) (fun m => d.src.length - m) 0 (Nat.zero_le _) (Into.le ?_ trivial (Nat.le_refl _) rfl) fun m hm => W.code (N := 68) [] hN ?_
      · simp only [go_sem, reduceIte, Nat.reduceEqDiff, Nat.reduceAdd, Nat.reduceMul, Nat.reduceSub, Nat.reduceLT, Nat.reduceLeDiff, Int.reduceToNat, reduceCtorEq, Int.reduceEq, Int.reduceBEq, Int.reduceLE, Int.reduceLT, hk]
        exact LeD.refl _
      repeat (first | refine st_end rfl ?_ | ((first | refine st_op fun K k => ?_ | refine st_op0 fun K k => ?_ | refine st_opT fun K k => ?_ | refine st_grd rfl fun A B C k k' k2 => ?_ | refine st_cond fun A B k k' => ?_); simp only [go_sem, reduceIte, Nat.reduceEqDiff, Nat.reduceAdd, Nat.reduceMul, Nat.reduceSub, Nat.reduceLT, Nat.reduceLeDiff, Int.reduceToNat, reduceCtorEq, Int.reduceEq, Int.reduceBEq, Int.reduceLE, Int.reduceLT, hdj, DP.cells]; first | (refine k _ _ _ _ _ ?_; clear k K) | (refine k ?_; clear k k' k2 A B C) | (refine k' ?_; clear k k' k2 A B C) | (refine k2 ?_; clear k k' k2 A B C) | (refine k ?_; clear k k' A B) | (refine k' ?_; clear k k' A B)))
      refine st_cond fun A B a b => ?_; simp only [go_sem, reduceIte, Nat.reduceEqDiff, Nat.reduceAdd, Nat.reduceMul, Nat.reduceSub, Nat.reduceLT, Nat.reduceLeDiff, Int.reduceToNat, reduceCtorEq, Int.reduceEq, Int.reduceBEq, Int.reduceLE, Int.reduceLT]; refine ⟨fun g => a ?_, fun g => b ?_⟩ <;> clear a b A B
      · obtain ⟨x, hx⟩ := getS (l := d.src) (i := m) (by omega)
        have w6 : IntKind.wrap .i64 ((m : Int) + 1) = ((m + 1 : Nat) : Int) := wrapTo (by omega)
        have e7 : d.src.take (m + 1) = d.src.take m ++ [x] := by rw [List.take_add_one, hx]; rfl
        have e8 : ((d.src.take (m + 1)).all fun s => decide (s ∈ kk)) = (((d.src.take m).all fun s => decide (s ∈ kk)) && decide (x ∈ kk)) := by rw [e7, List.all_append]; simp
        cases hb : (d.src.take m).all fun s => decide (s ∈ kk) with
        | true =>
          repeat (first | refine st_end rfl ?_ | ((first | refine st_op fun K k => ?_ | refine st_op0 fun K k => ?_ | refine st_opT fun K k => ?_ | refine st_grd rfl fun A B C k k' k2 => ?_ | refine st_cond fun A B k k' => ?_); simp only [go_sem, reduceIte, Nat.reduceEqDiff, Nat.reduceAdd, Nat.reduceMul, Nat.reduceSub, Nat.reduceLT, Nat.reduceLeDiff, Int.reduceToNat, reduceCtorEq, Int.reduceEq, Int.reduceBEq, Int.reduceLE, Int.reduceLT, hdj, DP.cells, hx, hb]; first | (refine k _ _ _ _ _ ?_; clear k K) | (refine k ?_; clear k k' k2 A B C) | (refine k' ?_; clear k k' k2 A B C) | (refine k2 ?_; clear k k' k2 A B C) | (refine k ?_; clear k k' A B) | (refine k' ?_; clear k k' A B)))
          (first | refine st_op fun K k => ?_ | refine st_opT fun K k => ?_); simp only [go_sem, reduceIte, Nat.reduceEqDiff, Nat.reduceAdd, Nat.reduceMul, Nat.reduceSub, Nat.reduceLT, Nat.reduceLeDiff, Int.reduceToNat, reduceCtorEq, Int.reduceEq, Int.reduceBEq, Int.reduceLE, Int.reduceLT]; refine callP (f56_ok kk x) ?_; refine k _ _ _ _ _ ?_; clear k K
          have hin : decide ((0 : Int) ≤ idxFrom kk x 0) = decide (x ∈ kk) := idxFrom_mem x kk 0 _
          repeat (first | refine st_end rfl ?_ | ((first | refine st_op fun K k => ?_ | refine st_op0 fun K k => ?_ | refine st_opT fun K k => ?_ | refine st_grd rfl fun A B C k k' k2 => ?_ | refine st_cond fun A B k k' => ?_); simp only [go_sem, reduceIte, Nat.reduceEqDiff, Nat.reduceAdd, Nat.reduceMul, Nat.reduceSub, Nat.reduceLT, Nat.reduceLeDiff, Int.reduceToNat, reduceCtorEq, Int.reduceEq, Int.reduceBEq, Int.reduceLE, Int.reduceLT, hdj, DP.cells, hx, hb, hin, w6, ge_iff_le]; first | (refine k _ _ _ _ _ ?_; clear k K) | (refine k ?_; clear k k' k2 A B C) | (refine k' ?_; clear k k' k2 A B C) | (refine k2 ?_; clear k k' k2 A B C) | (refine k ?_; clear k k' A B) | (refine k' ?_; clear k k' A B)))
          refine ⟨m + 1, by omega, by omega, Into.le ?_ trivial (Nat.le_refl _) rfl⟩
          · simp only [go_sem, reduceIte, Nat.reduceEqDiff, Nat.reduceAdd, Nat.reduceMul, Nat.reduceSub, Nat.reduceLT, Nat.reduceLeDiff, Int.reduceToNat, reduceCtorEq, Int.reduceEq, Int.reduceBEq, Int.reduceLE, Int.reduceLT, e8, hb, Bool.true_and, ge_iff_le, hin]
        | false =>
          repeat (first | refine st_end rfl ?_ | ((first | refine st_op fun K k => ?_ | refine st_op0 fun K k => ?_ | refine st_opT fun K k => ?_ | refine st_grd rfl fun A B C k k' k2 => ?_ | refine st_cond fun A B k k' => ?_); simp only [go_sem, reduceIte, Nat.reduceEqDiff, Nat.reduceAdd, Nat.reduceMul, Nat.reduceSub, Nat.reduceLT, Nat.reduceLeDiff, Int.reduceToNat, reduceCtorEq, Int.reduceEq, Int.reduceBEq, Int.reduceLE, Int.reduceLT, hdj, DP.cells, hx, hb, w6]; first | (refine k _ _ _ _ _ ?_; clear k K) | (refine k ?_; clear k k' k2 A B C) | (refine k' ?_; clear k k' k2 A B C) | (refine k2 ?_; clear k k' k2 A B C) | (refine k ?_; clear k k' A B) | (refine k' ?_; clear k k' A B)))
          refine ⟨m + 1, by omega, by omega, Into.le ?_ trivial (Nat.le_refl _) rfl⟩
          · simp only [go_sem, reduceIte, Nat.reduceEqDiff, Nat.reduceAdd, Nat.reduceMul, Nat.reduceSub, Nat.reduceLT, Nat.reduceLeDiff, Int.reduceToNat, reduceCtorEq, Int.reduceEq, Int.reduceBEq, Int.reduceLE, Int.reduceLT, e8, hb, Bool.false_and]
      obtain rfl : m = d.src.length := by omega
      refine iq Into.refl ?_
      simp only [go_sem, reduceIte, Nat.reduceEqDiff, Nat.reduceAdd, Nat.reduceMul, Nat.reduceSub, Nat.reduceLT, Nat.reduceLeDiff, Int.reduceToNat, reduceCtorEq, Int.reduceEq, Int.reduceBEq, Int.reduceLE, Int.reduceLT, List.take_length]
      cases hb : d.src.all fun s => decide (s ∈ kk) with
      | true =>
        have e9 : oneR kk d = insR kk d.dst := by rw [oneR, if_pos hb]
        repeat (first | refine st_end rfl ?_ | ((first | refine st_op fun K k => ?_ | refine st_op0 fun K k => ?_ | refine st_opT fun K k => ?_ | refine st_grd rfl fun A B C k k' k2 => ?_ | refine st_cond fun A B k k' => ?_); simp only [go_sem, reduceIte, Nat.reduceEqDiff, Nat.reduceAdd, Nat.reduceMul, Nat.reduceSub, Nat.reduceLT, Nat.reduceLeDiff, Int.reduceToNat, reduceCtorEq, Int.reduceEq, Int.reduceBEq, Int.reduceLE, Int.reduceLT, hdj, DP.cells, hb]; first | (refine k _ _ _ _ _ ?_; clear k K) | (refine k ?_; clear k k' k2 A B C) | (refine k' ?_; clear k k' k2 A B C) | (refine k2 ?_; clear k k' k2 A B C) | (refine k ?_; clear k k' A B) | (refine k' ?_; clear k k' A B)))
        (first | refine st_op fun K k => ?_ | refine st_opT fun K k => ?_); simp only [go_sem, reduceIte, Nat.reduceEqDiff, Nat.reduceAdd, Nat.reduceMul, Nat.reduceSub, Nat.reduceLT, Nat.reduceLeDiff, Int.reduceToNat, reduceCtorEq, Int.reduceEq, Int.reduceBEq, Int.reduceLE, Int.reduceLT]; refine callP (f80_ok kk d.dst (by omega)) ?_; refine k _ _ _ _ _ ?_; clear k K
        repeat (first | refine st_end rfl ?_ | ((first | refine st_op fun K k => ?_ | refine st_op0 fun K k => ?_ | refine st_opT fun K k => ?_ | refine st_grd rfl fun A B C k k' k2 => ?_ | refine st_cond fun A B k k' => ?_); simp only [go_sem, reduceIte, Nat.reduceEqDiff, Nat.reduceAdd, Nat.reduceMul, Nat.reduceSub, Nat.reduceLT, Nat.reduceLeDiff, Int.reduceToNat, reduceCtorEq, Int.reduceEq, Int.reduceBEq, Int.reduceLE, Int.reduceLT, w5]; first | (refine k _ _ _ _ _ ?_; clear k K) | (refine k ?_; clear k k' k2 A B C) | (refine k' ?_; clear k k' k2 A B C) | (refine k2 ?_; clear k k' k2 A B C) | (refine k ?_; clear k k' A B) | (refine k' ?_; clear k k' A B)))
        refine ⟨j + 1, by omega, by omega, Into.le ?_ trivial (Nat.le_refl _) rfl⟩
        · simp only [go_sem, reduceIte, Nat.reduceEqDiff, Nat.reduceAdd, Nat.reduceMul, Nat.reduceSub, Nat.reduceLT, Nat.reduceLeDiff, Int.reduceToNat, reduceCtorEq, Int.reduceEq, Int.reduceBEq, Int.reduceLE, Int.reduceLT, e6, e9]
      | false =>
        have e9 : oneR kk d = kk := by rw [oneR, if_neg (by rw [hb]; simp)]
        repeat (first | refine st_end rfl ?_ | ((first | refine st_op fun K k => ?_ | refine st_op0 fun K k => ?_ | refine st_opT fun K k => ?_ | refine st_grd rfl fun A B C k k' k2 => ?_ | refine st_cond fun A B k k' => ?_); simp only [go_sem, reduceIte, Nat.reduceEqDiff, Nat.reduceAdd, Nat.reduceMul, Nat.reduceSub, Nat.reduceLT, Nat.reduceLeDiff, Int.reduceToNat, reduceCtorEq, Int.reduceEq, Int.reduceBEq, Int.reduceLE, Int.reduceLT, hdj, DP.cells, hb, w5]; first | (refine k _ _ _ _ _ ?_; clear k K) | (refine k ?_; clear k k' k2 A B C) | (refine k' ?_; clear k k' k2 A B C) | (refine k2 ?_; clear k k' k2 A B C) | (refine k ?_; clear k k' A B) | (refine k' ?_; clear k k' A B)))
        refine ⟨j + 1, by omega, by omega, Into.le ?_ trivial (Nat.le_refl _) rfl⟩
        · simp only [go_sem, reduceIte, Nat.reduceEqDiff, Nat.reduceAdd, Nat.reduceMul, Nat.reduceSub, Nat.reduceLT, Nat.reduceLeDiff, Int.reduceToNat, reduceCtorEq, Int.reduceEq, Int.reduceBEq, Int.reduceLE, Int.reduceLT, e6, e9]
    obtain rfl : j = l.length := by omega
    refine iq Into.refl ?_
    have w5 : IntKind.wrap .i64 ((n : Int) + 1) = ((n + 1 : Nat) : Int) := wrapTo (by omega)
    have e6 := iterR_succ l n k0
    simp only [go_sem, reduceIte, Nat.reduceEqDiff, Nat.reduceAdd, Nat.reduceMul, Nat.reduceSub, Nat.reduceLT, Nat.reduceLeDiff, Int.reduceToNat, reduceCtorEq, Int.reduceEq, Int.reduceBEq, Int.reduceLE, Int.reduceLT, List.take_length]
    repeat (first | refine st_end rfl ?_ | ((first | refine st_op fun K k => ?_ | refine st_op0 fun K k => ?_ | refine st_opT fun K k => ?_ | refine st_grd rfl fun A B C k k' k2 => ?_ | refine st_cond fun A B k k' => ?_); simp only [go_sem, reduceIte, Nat.reduceEqDiff, Nat.reduceAdd, Nat.reduceMul, Nat.reduceSub, Nat.reduceLT, Nat.reduceLeDiff, Int.reduceToNat, reduceCtorEq, Int.reduceEq, Int.reduceBEq, Int.reduceLE, Int.reduceLT, w5]; first | (refine k _ _ _ _ _ ?_; clear k K) | (refine k ?_; clear k k' k2 A B C) | (refine k' ?_; clear k k' k2 A B C) | (refine k2 ?_; clear k k' k2 A B C) | (refine k ?_; clear k k' A B) | (refine k' ?_; clear k k' A B)))
    refine ⟨n + 1, by omega, by omega, Into.le ?_ trivial (Nat.le_refl _) rfl⟩
    · simp only [go_sem, reduceIte, Nat.reduceEqDiff, Nat.reduceAdd, Nat.reduceMul, Nat.reduceSub, Nat.reduceLT, Nat.reduceLeDiff, Int.reduceToNat, reduceCtorEq, Int.reduceEq, Int.reduceBEq, Int.reduceLE, Int.reduceLT, e6]
  obtain rfl : n = l.length + 1 := by omega
  refine iq Into.refl ?_
  repeat (first | refine st_end rfl ?_ | ((first | refine st_op fun K k => ?_ | refine st_op0 fun K k => ?_ | refine st_opT fun K k => ?_ | refine st_grd rfl fun A B C k k' k2 => ?_ | refine st_cond fun A B k k' => ?_); simp only [go_sem, reduceIte, Nat.reduceEqDiff, Nat.reduceAdd, Nat.reduceMul, Nat.reduceSub, Nat.reduceLT, Nat.reduceLeDiff, Int.reduceToNat, reduceCtorEq, Int.reduceEq, Int.reduceBEq, Int.reduceLE, Int.reduceLT]; first | (refine k _ _ _ _ _ ?_; clear k K) | (refine k ?_; clear k k' k2 A B C) | (refine k' ?_; clear k k' k2 A B C) | (refine k2 ?_; clear k k' k2 A B C) | (refine k ?_; clear k k' A B) | (refine k' ?_; clear k k' A B)))
  refine Done.mk (.inr rfl) Into.refl ?_ [] 0 ?_ ?_ ?_ ?_
  · rfl
  · rfl
  · simp only [go_sem, reduceIte, Nat.reduceEqDiff, Nat.reduceAdd, Nat.reduceMul, Nat.reduceSub, Nat.reduceLT, Nat.reduceLeDiff, Int.reduceToNat, reduceCtorEq, Int.reduceEq, Int.reduceBEq, Int.reduceLE, Int.reduceLT, refC, hk0]
  · trivial
  · rfl
end Go.Proofs.YtjgooecohepkoaaGreatDoor
