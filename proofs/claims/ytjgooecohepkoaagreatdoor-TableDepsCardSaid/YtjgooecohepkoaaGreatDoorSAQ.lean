/- Contracts of the functions that the statement reaches. -/
import Derived.Test.YtjgooecohepkoaaGreatDoorSAP
import Derived.Test.YtjgooecohepkoaaGreatDoorSAL
set_option linter.unusedVariables false
set_option linter.unusedSimpArgs false
namespace Go.Proofs.YtjgooecohepkoaaGreatDoor
open Go Go.Abs Go.ChangeShapes Go.WideShapes Go.RowKit
set_option linter.unusedSimpArgs false
theorem pr6 : Tryz.f6.params = #[22, 48, 22] := by kernel_rfl
theorem rt6 : Tryz.f6.resultTypes = #[4] := by kernel_rfl
theorem fu6 : Tryz.prog.funcs[6]? = some Tryz.f6 := by kernel_rfl
set_option maxRecDepth 100000 in
theorem deps_lifted (os : Os) (started : os.Started) (H : Type) (enc : TypeId × Value → H) :
    ReturnsInHanded {} Tryz.checked os 6 .any (fun w args => (Rows.tableDepsSpec.pre enc Tryz.prog Tryz.f6 [] false w args ∧ laidMetH Tryz.prog laid1 w) ∧ sizedMet enc Tryz.prog Tryz.f6 (OpenSpec.ofChange Rows.tableDepsSpec) false w args)
      (Rows.tableDepsSpec.post enc Tryz.prog Tryz.f6 false true false false) := by
  refine returnsInHanded_of_change_and (C := Tryz.checked) (X := fun w _ => laidMetH Tryz.prog laid1 w) (fun _ _ _ hh h => h.of_heap hh) ownKnobNone started (by kernel_rfl) fu6
    (ChangeSpec.witness_shaped (enc := enc) (C := Tryz.checked) (os := os) (X := fun w _ => laidMetH Tryz.prog laid1 w) false (World.laidAll Tryz.prog os laid1) #[.slice none 0 0, .slice none 0 0, .slice none 0 0] 8 (World.laidAll_os _ _ _)
      (World.shaped_of_ZipB (by kernel_rfl) (by kernel_rfl)) (by kernel_rfl) (by kernel_rfl) (by kernel_rfl)
      (by rw [MakeChecks.laidMetH_plain _ _ _ (by kernel_rfl)]; exact laidMet_laidAll _ (by kernel_rfl) (by kernel_rfl))) ?_
  intro W base args ds gs before hval0 hW hc _ hL _
  have hval : ∀ (j : Nat) t v, Tryz.f6.params[j]? = some t → args[j]? = some v → Value.okWide Tryz.prog W .any base t v := hval0
  have hW' := hW
  obtain ⟨p, q, hA0, hV, rfl, _, _⟩ := hW
  have hlt := hA0.lt
  have hA : DataW.TrodAll enc Tryz.prog W 0 (fun _ => true) true Tryz.f6.params.toList args.toList ds p := hA0
  rw [pr6] at hA hval
  obtain ⟨v0, v1, v2, d0, d1, d2, p0, p1, p2, rfl, rfl, rfl, h0, h1, h2⟩ := trodAll_three hA
  obtain ⟨rfl, rfl⟩ := trodVars_none hV
  obtain ⟨a0, b0, c0, rfl⟩ := okWide_slice ty22 (hval 0 22 v0 rfl rfl)
  obtain ⟨a1, b1, c1, rfl⟩ := okWide_slice ty48 (hval 1 48 v1 rfl rfl)
  obtain ⟨a2, b2, c2, rfl⟩ := okWide_slice ty22 (hval 2 22 v2 rfl rfl)
  obtain ⟨f0, g0⟩ := h0
  obtain ⟨f1, g1⟩ := h1
  obtain ⟨f2, g2⟩ := h2
  obtain ⟨x0, L, e0, r0⟩ := ints_rep (g := gAll W) (fun b h => h) g0
  obtain ⟨x1, ls, e1, r1⟩ := intss_rep (g := gAll W) (fun b h => h) g1
  obtain ⟨x2, dL, e2, r2⟩ := ints_rep (g := gAll W) (fun b h => h) g2
  obtain rfl : _ = x0 := List.singleton_inj.1 e0
  obtain rfl : _ = x1 := List.singleton_inj.1 e1
  obtain rfl : _ = x2 := List.singleton_inj.1 e2
  refine (call_pure (f6_ok L ls dL) (hgl_of hL) (vs := [.slice a0 b0 c0, .slice a1 b1 c1, .slice a2 b2 c2]) ⟨r0, r1, r2, trivial⟩).mono ?_
  rintro e W' ⟨v, rfl, hb, g', hv⟩
  have hv' : v = .bool true := hv
  subst hv'
  have l0 : ∀ x ∈ p0, x.block < W.heap.size := fun x hx => hlt x (by simp [hx])
  have l1 : ∀ x ∈ p1, x.block < W.heap.size := fun x hx => hlt x (by simp [hx])
  have l2 : ∀ x ∈ p2, x.block < W.heap.size := fun x hx => hlt x (by simp [hx])
  have k0 := Below.trod laidOutAll (by kernel_rfl) (of_decide_eq_true (by kernel_rfl)) ⟨f0, g0⟩ hb l0
  have k1 := Below.trod laidOutAll (by kernel_rfl) (of_decide_eq_true (by kernel_rfl)) ⟨f1, g1⟩ hb l1
  have k2 := Below.trod laidOutAll (by kernel_rfl) (of_decide_eq_true (by kernel_rfl)) ⟨f2, g2⟩ hb l2
  refine ⟨_, rfl, _, _, _, [], p0 ++ (p1 ++ p2), [], hW', ?_, ?_, ?_, hb.frame _, fun h => by cases h⟩
  · rw [rt6]
    exact trodAll_mk1 (shut_bool ty4 true)
  · rw [pr6]
    exact trodAll_mk3 k0 k1 k2
  · rfl
theorem deps_holds : Rows.TableDepsSaid :=
  OpenClaim.holds_of_wide 6 Tryz.f6 rfl rfl rfl rfl rfl rfl rfl ⟨rfl, rfl, rfl, rfl, rfl⟩ rfl rfl rfl rfl rfl (by kernel_rfl) fu6 (by kernel_rfl)
    (of_decide_eq_true (by kernel_rfl)) (by unfold Func.isWrapper; first | (rw [if_pos (by decide +kernel)]; kernel_rfl) | (rw [if_neg (by decide +kernel)]; exact ⟨rfl, rfl⟩))
    (fun os started H enc _ => deps_lifted os started H enc)
#print axioms deps_holds
end Go.Proofs.YtjgooecohepkoaaGreatDoor
