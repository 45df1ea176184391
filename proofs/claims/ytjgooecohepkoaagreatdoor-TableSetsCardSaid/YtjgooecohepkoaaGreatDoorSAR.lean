/- Contracts of the functions that the statement reaches. -/
import Derived.Test.YtjgooecohepkoaaGreatDoorSAQ
import Derived.Laws.IdiomArrays
import Derived.Test.YtjgooecohepkoaaGreatDoorSAP
set_option linter.unusedVariables false
set_option linter.unusedSimpArgs false
namespace Go.Proofs.YtjgooecohepkoaaGreatDoor
open Go Go.Abs Go.ChangeShapes Go.WideShapes Go.RowKit
set_option linter.unusedSimpArgs false
theorem ownKnobNone : ownKnob Tryz.prog.godebug = none := by kernel_rfl
theorem laidOutAll : laidOutB Tryz.prog = true := by kernel_rfl
theorem ty23 : Tryz.prog.underlying 23 = some (.array 3 3) := by kernel_rfl
theorem ce23 : Tryz.prog.cellsOf 23 = 3 := by kernel_rfl
set_option maxRecDepth 100000 in
/-- An array of three numbers, as an argument. -/
theorem okWide_arr3 {w : World} {base : Nat} {v : Value} (h : Value.okWide Tryz.prog w .any base 23 v) : ∃ c0 c1 c2, v = .agg #[c0, c1, c2] := by
  simp only [Value.okWide, ty23, ce23] at h
  obtain ⟨cs, rfl, hsz, _⟩ := h
  obtain ⟨l⟩ := cs
  rcases l with _ | ⟨c0, _ | ⟨c1, _ | ⟨c2, _ | ⟨c3, r⟩⟩⟩⟩ <;> simp at hsz
  exact ⟨c0, c1, c2, rfl⟩
theorem arr3_rep {H : Type} {enc : TypeId × Value → H} {W : World} {base : Nat} {sp : Nat → Bool} {held : Bool} {g : G} {fuel : Nat} {c0 c1 c2 : Value} {x : DataW H × List MemPlace}
    (h : DataW.trod enc Tryz.prog W base sp held fuel 23 [c0, c1, c2] = some x) : ∃ q0 q1 q2 : Int, Rep W g (.agg #[c0, c1, c2]) (.agg [.v (.int .i64 q0), .v (.int .i64 q1), .v (.int .i64 q2)]) := by
  obtain ⟨y0, y1, y2, n, _, h0, h1, h2⟩ := trod_array3 ty23 ce3 h
  obtain ⟨z0, e0, _⟩ := DataW.trod_int ty3 h0
  obtain ⟨z1, e1, _⟩ := DataW.trod_int ty3 h1
  obtain ⟨z2, e2, _⟩ := DataW.trod_int ty3 h2
  obtain rfl := List.singleton_inj.1 e0
  obtain rfl := List.singleton_inj.1 e1
  obtain rfl := List.singleton_inj.1 e2
  refine ⟨z0, z1, z2, ?_⟩
  simp only [Rep]
  exact ⟨_, rfl, by simp [RepL, Rep]⟩
end Go.Proofs.YtjgooecohepkoaaGreatDoor
namespace Go.Proofs.YtjgooecohepkoaaGreatDoor
open Go Go.Abs Go.ChangeShapes Go.WideShapes Go.RowKit
set_option linter.unusedSimpArgs false
theorem ty5 : Tryz.prog.underlying 5 = some (.int .u8) := by kernel_rfl
theorem pr8 : Tryz.f8.params = #[48, 23, 5] := by kernel_rfl
theorem rt8 : Tryz.f8.resultTypes = #[4] := by kernel_rfl
theorem fu8 : Tryz.prog.funcs[8]? = some Tryz.f8 := by kernel_rfl
set_option maxRecDepth 100000 in
theorem sets_lifted (os : Os) (started : os.Started) (H : Type) (enc : TypeId × Value → H) :
    ReturnsInHanded {} Tryz.checked os 8 .any (fun w args => (Rows.tableSetsSpec.pre enc Tryz.prog Tryz.f8 [] false w args ∧ laidMetH Tryz.prog laid1 w) ∧ sizedMet enc Tryz.prog Tryz.f8 (OpenSpec.ofChange Rows.tableSetsSpec) false w args)
      (Rows.tableSetsSpec.post enc Tryz.prog Tryz.f8 false true false false) := by
  refine returnsInHanded_of_change_and (C := Tryz.checked) (X := fun w _ => laidMetH Tryz.prog laid1 w) (fun _ _ _ hh h => h.of_heap hh) ownKnobNone started (by kernel_rfl) fu8
    (ChangeSpec.witness_shaped (enc := enc) (C := Tryz.checked) (os := os) (X := fun w _ => laidMetH Tryz.prog laid1 w) false (World.laidAll Tryz.prog os laid1) #[.slice none 0 0, .agg #[.int .i64 0, .int .i64 0, .int .i64 0], .int .u8 0] 8 (World.laidAll_os _ _ _)
      (World.shaped_of_ZipB (by kernel_rfl) (by kernel_rfl)) (by kernel_rfl) (by kernel_rfl) (by kernel_rfl)
      (by rw [MakeChecks.laidMetH_plain _ _ _ (by kernel_rfl)]; exact laidMet_laidAll _ (by kernel_rfl) (by kernel_rfl))) ?_
  intro W base args ds gs before hval0 hW hc _ hL _
  have hval : ∀ (j : Nat) t v, Tryz.f8.params[j]? = some t → args[j]? = some v → Value.okWide Tryz.prog W .any base t v := hval0
  have hW' := hW
  obtain ⟨p, q, hA0, hV, rfl, _, _⟩ := hW
  have hlt := hA0.lt
  have hA : DataW.TrodAll enc Tryz.prog W 0 (fun _ => true) true Tryz.f8.params.toList args.toList ds p := hA0
  rw [pr8] at hA hval
  obtain ⟨v0, v1, v2, d0, d1, d2, p0, p1, p2, rfl, rfl, rfl, h0, h1, h2⟩ := trodAll_three hA
  obtain ⟨rfl, rfl⟩ := trodVars_none hV
  obtain ⟨a0, b0, c0, rfl⟩ := okWide_slice ty48 (hval 0 48 v0 rfl rfl)
  obtain ⟨a1, b1, c1, rfl⟩ := okWide_arr3 (hval 1 23 v1 rfl rfl)
  obtain ⟨nb, rfl⟩ := okWide_int ty5 (hval 2 5 v2 rfl rfl)
  obtain ⟨f0, g0⟩ := h0
  obtain ⟨f1, g1⟩ := h1
  obtain ⟨f2, g2⟩ := h2
  obtain ⟨x0, L, e0, r0⟩ := intss_rep (g := gAll W) (fun b h => h) g0
  obtain ⟨q0, q1, q2, r1⟩ := arr3_rep (g := gAll W) g1
  obtain ⟨n2, e2, _, hwf⟩ := DataW.trod_int ty5 g2
  have hnb : 0 ≤ nb ∧ nb < 256 := by
    obtain rfl : nb = n2 := by
      have e3 : [Value.int .u8 nb] = [Value.int .u8 n2] := e2
      simpa using e3
    simp only [Lit.wf, Bool.and_eq_true, decide_eq_true_eq] at hwf
    have b1 : IntKind.min .u8 = 0 := by decide
    have b2 : IntKind.max .u8 = 255 := by decide
    rw [b1, b2] at hwf
    omega
  obtain rfl : _ = x0 := List.singleton_inj.1 e0
  refine (call_pure (f8_ok L q0 q1 q2 nb hnb) (hgl_of hL) (vs := [.slice a0 b0 c0, .agg #[a1, b1, c1], .int .u8 nb]) ⟨r0, r1, by simp [Rep], trivial⟩).mono ?_
  rintro e W' ⟨v, rfl, hb, g', hv⟩
  have hv' : v = .bool true := hv
  subst hv'
  have l0 : ∀ x ∈ p0, x.block < W.heap.size := fun x hx => hlt x (by simp [hx])
  have l1 : ∀ x ∈ p1, x.block < W.heap.size := fun x hx => hlt x (by simp [hx])
  have l2 : ∀ x ∈ p2, x.block < W.heap.size := fun x hx => hlt x (by simp [hx])
  have k0 := Below.trod laidOutAll (by kernel_rfl) (of_decide_eq_true (by kernel_rfl)) ⟨f0, g0⟩ hb l0
  have k1 := Below.trod laidOutAll (by kernel_rfl) (of_decide_eq_true (by kernel_rfl)) ⟨f1, g1⟩ hb l1
  have k2 := Below.trod laidOutAll (by kernel_rfl) (of_decide_eq_true (by kernel_rfl)) ⟨f2, g2⟩ hb l2
  refine ⟨_, rfl, _, _, _, [], p0 ++ (p1 ++ p2), [], hW', ?_, ?_, ?_, hb.frame _, fun h => by cases h⟩
  · rw [rt8]
    exact trodAll_mk1 (shut_bool ty4 true)
  · rw [pr8]
    exact trodAll_mk3 k0 k1 k2
  · rfl
theorem sets_holds : Rows.TableSetsSaid :=
  OpenClaim.holds_of_wide 8 Tryz.f8 rfl rfl rfl rfl rfl rfl rfl ⟨rfl, rfl, rfl, rfl, rfl⟩ rfl rfl rfl rfl rfl (by kernel_rfl) fu8 (by kernel_rfl)
    (of_decide_eq_true (by kernel_rfl)) (by unfold Func.isWrapper; first | (rw [if_pos (by decide +kernel)]; kernel_rfl) | (rw [if_neg (by decide +kernel)]; exact ⟨rfl, rfl⟩))
    (fun os started H enc _ => sets_lifted os started H enc)
#print axioms sets_holds
end Go.Proofs.YtjgooecohepkoaaGreatDoor
