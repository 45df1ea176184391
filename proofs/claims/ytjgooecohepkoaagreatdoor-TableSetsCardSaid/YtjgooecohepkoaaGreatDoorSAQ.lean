/- Contracts of the functions that the statement reaches. -/
import Derived.Test.YtjgooecohepkoaaGreatDoorSAB
import Derived.Test.YtjgooecohepkoaaGreatDoorRows
import Derived.ChangeSame
import Derived.ChangeVars
import Derived.JoinedOf
import Derived.RowKit
import Derived.RowKitTokens
import Derived.LaidLaws
import Derived.LaidHandle
import Derived.Carry
import Derived.ChangeSlices
import Derived.ProofKit
import Derived.OpenShut
import Derived.LaidMore
import Derived.Lay
import Derived.MakeChecks
set_option linter.unusedVariables false
set_option linter.unusedSimpArgs false
namespace Go.Proofs.YtjgooecohepkoaaGreatDoor
open Go Go.Abs Go.ChangeShapes Go.WideShapes Go.RowKit
set_option linter.unusedSimpArgs false
theorem ty22 : Tryz.prog.underlying 22 = some (.slice 3) := by kernel_rfl
theorem ty48 : Tryz.prog.underlying 48 = some (.slice 22) := by kernel_rfl
theorem ty3 : Tryz.prog.underlying 3 = some (.int .i64) := by kernel_rfl
theorem ty4 : Tryz.prog.underlying 4 = some .bool := by kernel_rfl
theorem ty182 : Tryz.prog.underlying 182 = some (.array 19 3) := by kernel_rfl
theorem ce3 : Tryz.prog.cellsOf 3 = 1 := by kernel_rfl
theorem ce22 : Tryz.prog.cellsOf 22 = 1 := by kernel_rfl
theorem gn0 : Tryz.prog.globalNamed "concord/decimal.powers" = some 0 := by kernel_rfl
theorem gt0 : (Tryz.prog.globals[0]?).map (·.type) = some 182 := by kernel_rfl
/-- The ghost of a whole call: what is there may not be written. -/
def gAll (W : World) : G := ⟨fun b => b < W.heap.size, fun _ => none⟩
theorem wfAll (W : World) : WF W (gAll W) := ⟨fun _ h => h, fun _ _ _ h => by cases h⟩
def envOf (W : World) (hgl : ∀ i, Rep W (gAll W).cl (.pointer (some ⟨i, 0, none⟩)) (sys.gl i)) : Env sys :=
  { F := Fence.wide, hF := fun _ => trivial, hd := rfl, hal := rfl, N := 0, w0 := W, g0 := gAll W, own0 := fun _ => False, hz0 := fun _ _ h => h, wf0 := wfAll W, hgl := hgl, rd := none, hrd := rfl }
/-- A contract without objects, as a call. -/
theorem call_pure {k : Nat} {args : List D} {d : D} (h : FnOK sys k args [] d []) {W : World} (hgl : ∀ i, Rep W (gAll W).cl (.pointer (some ⟨i, 0, none⟩)) (sys.gl i)) {vs : List Value} (hv : RepL W (gAll W) vs args) :
    Calls Tryz.prog k vs.toArray W fun e W' => ∃ v, e = .returned v ∧ Below W.heap.size W W' ∧ ∃ g', Rep W' g' v d := by
  have h1 := h.2 (envOf W hgl) W (gAll W) vs ⟨Tr.refl _ _ _, wfAll W⟩ hv ⟨fun l o h => by simp [Abs.look] at h, fun l l' b x x' h => absurd rfl h⟩ (fun l _ h => absurd rfl h)
  refine callsIn_wide.1 (h1.mono ?_)
  rintro e W' ⟨v, g', rfl, hm, hr⟩
  refine ⟨v, rfl, ⟨hm.tr.os, hm.tr.tape, hm.tr.output, hm.tr.size, fun b hb => hm.tr.keep b hb ?_⟩, g', hr⟩
  rintro ⟨l, x, hc, _⟩
  exact hc rfl
theorem cell_lt {W : World} {a : Addr} {v : Value} (h : W.cell? a = some v) : a.block < W.heap.size := by
  by_cases hb : a.block < W.heap.size
  · exact hb
  · have : W.heap[a.block]? = none := Array.getElem?_eq_none (by omega)
    simp [World.cell?, this] at h
theorem ints_rep {H : Type} {enc : TypeId × Value → H} {W : World} {base : Nat} {sp : Nat → Bool} {held : Bool} {g : G} (hg : ∀ b, b < W.heap.size → g.Z b) {fuel : Nat} {cs : List Value} {x : DataW H × List MemPlace}
    (h : DataW.trod enc Tryz.prog W base sp held fuel 22 cs = some x) : ∃ v L, cs = [v] ∧ Rep W g v (ints L) := by
  rcases open_ints ty22 ty3 ce3 h with ⟨rfl, _⟩ | ⟨a, len, cap, zs, rfl, _, h1, h2, h3, _, h4, _⟩
  · refine ⟨_, [], rfl, ?_⟩
    simp only [ints, List.map_nil, Rep]
    exact ⟨none, 0, rfl, by simp, by simp, by simp, by simp⟩
  · have hz : len ≤ zs.length := by rw [h3]; split <;> omega
    have el : (zs.take len).length = len := by simp; omega
    refine ⟨_, zs.take len, rfl, ?_⟩
    simp only [ints, Rep]
    refine ⟨some a, cap, by rw [List.length_map, el], by simp; omega, h2, ?_, ?_⟩
    · intro e he; obtain ⟨n, _, rfl⟩ := List.mem_map.1 he; rfl
    · intro hne
      have hget : ∀ i, i < len → W.cell? (a.add i) = some (.int .i64 (zs.getD i 0)) := fun i hi => h4 i (by omega)
      have hpos : 0 < len := by
        rcases Nat.eq_zero_or_pos len with h0 | h0
        · exfalso; apply hne; rw [h0]; rfl
        · exact h0
      refine ⟨a, rfl, hg _ (by have := cell_lt (hget 0 hpos); simpa [Addr.add] using this), RepE.of_get fun i e he => ?_⟩
      rw [List.getElem?_map] at he
      cases hn : (zs.take len)[i]? with
      | none => rw [hn] at he; cases he
      | some n =>
        rw [hn] at he
        cases he
        have hi : i < len := by rw [← el]; exact (List.getElem?_eq_some_iff.1 hn).1
        have hzi : zs.getD i 0 = n := by
          rw [List.getElem?_take_of_lt hi] at hn
          simp [List.getD, hn]
        refine ⟨[.int .i64 n], ?_, by simp [RepL, Rep]⟩
        intro j u hu
        rcases j with _ | j
        · simp at hu
          subst hu
          have := hget i hi
          rw [hzi] at this
          simpa [Addr.add] using this
        · simp at hu
theorem cells1 {W : World} {base : Nat} {a : Addr} {cs : List Value} (h : W.cells? base a 1 = some cs) : ∃ c, cs = [c] ∧ W.cell? a = some c := by
  unfold World.cells? at h
  split at h
  · have e0 : a.add 0 = a := by simp [Addr.add]
    simp only [List.range_succ, List.range_zero, List.nil_append, List.mapM_cons, List.mapM_nil, e0] at h
    cases hcc : W.cell? a with
    | none => simp [hcc] at h
    | some c => simp [hcc] at h; exact ⟨c, h.symm, rfl⟩
  · cases h
/-- Lists of lists of numbers. -/
theorem intss_rep {H : Type} {enc : TypeId × Value → H} {W : World} {base : Nat} {sp : Nat → Bool} {held : Bool} {g : G} (hg : ∀ b, b < W.heap.size → g.Z b) {fuel : Nat} {cs : List Value} {x : DataW H × List MemPlace}
    (h : DataW.trod enc Tryz.prog W base sp held fuel 48 cs = some x) : ∃ (v : Value) (l : List (List Int)), cs = [v] ∧ Rep W g v (.sl (l.map fun x => [ints x]) 1) := by
  rcases DataW.trod_slice ty48 h with ⟨rfl, _⟩ | ⟨a, len, cap, elems, rest, n, _, rfl, _, _, h1, h2, h3, h4, _⟩
  · refine ⟨_, [], rfl, ?_⟩
    simp only [List.map_nil, Rep]
    exact ⟨none, 0, rfl, by simp, by simp, by simp, by simp⟩
  · have each : ∀ i, i < len → ∃ v L, W.cell? (a.add i) = some v ∧ Rep W g.cl v (ints L) := by
      intro i hi
      have h5 := h4 i hi
      rw [ce22, Nat.mul_one] at h5
      have h6 : elems[i]? = some elems[i] := List.getElem?_eq_getElem (by omega)
      rw [h6] at h5
      simp only [Option.bind_eq_some_iff] at h5
      obtain ⟨c1, h7, h8⟩ := h5
      obtain ⟨c, rfl, h9⟩ := cells1 h7
      obtain ⟨v, L, e, hr⟩ := ints_rep (g := g.cl) (fun b hb => hg b hb) h8
      cases e
      exact ⟨c, L, h9, hr⟩
    obtain ⟨l, hl, hL⟩ : ∃ l : List (List Int), l.length = len ∧ ∀ i L, l[i]? = some L → ∃ v, W.cell? (a.add i) = some v ∧ Rep W g.cl v (ints L) := by
      clear h3 h4 h1 h
      revert each
      generalize len = m0
      intro each
      induction m0 with
      | zero => exact ⟨[], rfl, fun i L h => by simp at h⟩
      | succ m ih =>
        obtain ⟨l, hl, hL⟩ := ih fun i hi => each i (by omega)
        obtain ⟨v, L, hc, hr⟩ := each m (by omega)
        refine ⟨l ++ [L], by simp [hl], fun i L' hi => ?_⟩
        by_cases him : i < m
        · rw [List.getElem?_append_left (by omega)] at hi
          exact hL i L' hi
        · rw [List.getElem?_append_right (by omega)] at hi
          have : i = m := by
            have := (List.getElem?_eq_some_iff.1 hi).1
            simp at this; omega
          subst this
          simp [hl] at hi
          subst hi
          exact ⟨v, hc, hr⟩
    refine ⟨_, l, rfl, ?_⟩
    simp only [Rep]
    refine ⟨some a, cap, by simp [hl], by simp; omega, h2, ?_, ?_⟩
    · intro e he; obtain ⟨n, _, rfl⟩ := List.mem_map.1 he; rfl
    · intro hne
      have hpos : 0 < len := by
        rcases Nat.eq_zero_or_pos len with h0 | h0
        · exfalso; apply hne
          have : l = [] := List.eq_nil_of_length_eq_zero (by omega)
          rw [this]; rfl
        · exact h0
      obtain ⟨v, _, hv, _⟩ := each 0 hpos
      refine ⟨a, rfl, hg _ (by have := cell_lt hv; simpa [Addr.add] using this), RepE.of_get fun i e he => ?_⟩
      rw [List.getElem?_map] at he
      cases hn : l[i]? with
      | none => rw [hn] at he; cases he
      | some L =>
        rw [hn] at he
        cases he
        obtain ⟨v, hv, hr⟩ := hL i L hn
        refine ⟨[v], ?_, ⟨hr, trivial⟩⟩
        intro j u hu
        rcases j with _ | j
        · simp at hu
          subst hu
          simpa [Addr.add] using hv
        · simp at hu
def laid1 : List (String × DataW Unit) := [("concord/decimal.powers", Rows.laid_concord_decimal_powers)]
def pows : List Int := [1, 10, 100, 1000, 10000, 100000, 1000000, 10000000, 100000000, 1000000000, 10000000000, 100000000000, 1000000000000, 10000000000000, 100000000000000, 1000000000000000, 10000000000000000, 100000000000000000, 1000000000000000000]
theorem pow_cell {W : World} (h : laidMetH Tryz.prog laid1 W) (r : Nat) (hr : r < 19) : W.cell? ⟨0, r, none⟩ = some (.int .i64 (pows.getD r 0)) := by
  rw [MakeChecks.laidMetH_plain _ _ _ (by kernel_rfl)] at h
  obtain ⟨ps, ⟨g, t, cs, fuel, p, q, hg, ht, hv, hd, _, _⟩, _, _⟩ := h
  obtain rfl := Option.some.inj (gn0.symm.trans hg)
  obtain rfl := Option.some.inj (gt0.symm.trans ht)
  obtain ⟨xs, m, _, ex, _, hl, hel⟩ := DataW.trod_array ty182 hd
  have hE := hel r hr
  rw [ce3, Nat.mul_one, List.getElem?_eq_getElem (by omega)] at hE
  obtain ⟨z, e1, e2, _⟩ := DataW.trod_int ty3 hE
  have hlen : pows.length = 19 := by rfl
  have e3 : (xs.map (·.1)) = pows.map fun n => .lit (.int .i64 n) := (DataW.agg.inj (Prod.mk.inj ex).1).symm
  have e4 : (xs.map (·.1))[r]? = (pows.map fun n => (DataW.lit (.int .i64 n) : DataW Unit))[r]? := by rw [e3]
  rw [List.getElem?_map, List.getElem?_map, List.getElem?_eq_getElem (by omega : r < xs.length), List.getElem?_eq_getElem (by omega : r < pows.length), e2] at e4
  have hz : z = pows.getD r 0 := by
    simp only [Option.map_some, Option.some.injEq, DataW.lit.injEq, Lit.int.injEq, true_and] at e4
    rw [e4, List.getD, List.getElem?_eq_getElem (by omega : r < pows.length)]; rfl
  rw [World.var?_cell hg hv r, ← hz]
  have : cs.toList[r]? = some (.int .i64 z) := by
    have h0 : ((cs.toList.drop r).take 1)[0]? = some (.int .i64 z) := by rw [e1]; rfl
    simpa using h0
  simpa using this
theorem hgl_of {W : World} (h : laidMetH Tryz.prog laid1 W) : ∀ i, Rep W (gAll W).cl (.pointer (some ⟨i, 0, none⟩)) (sys.gl i) := by
  intro i
  show Rep W (gAll W).cl (.pointer (some ⟨i, 0, none⟩)) (glob i)
  unfold glob
  by_cases hi : i = 0
  · subst hi
    simp only [if_true, Rep]
    refine ⟨⟨0, 0, none⟩, pows.map fun n => .int .i64 n, rfl, cell_lt (pow_cell h 0 (by omega)), ?_, by simp [pow10, pows, RepL, Rep]⟩
    intro j u hu
    rw [List.getElem?_map] at hu
    have hj : j < 19 := by
      cases hp : pows[j]? with
      | none => rw [hp] at hu; cases hu
      | some n => exact (List.getElem?_eq_some_iff.1 hp).1
    have hp : pows[j]? = some (pows.getD j 0) := by
      rw [List.getD, List.getElem?_eq_getElem (show j < pows.length from hj)]; rfl
    rw [hp] at hu
    cases hu
    have e0 : (⟨0, 0, none⟩ : Addr).add j = ⟨0, j, none⟩ := by
      cases j with
      | zero => rfl
      | succ j => simp [Addr.add]
    rw [e0]
    exact pow_cell h j hj
  · simp only [hi, if_false, Rep]
end Go.Proofs.YtjgooecohepkoaaGreatDoor
