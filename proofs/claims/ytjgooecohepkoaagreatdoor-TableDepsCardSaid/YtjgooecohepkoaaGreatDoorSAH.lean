/- Contracts of the functions that the statement reaches. -/
import Derived.Shelf.SlIter.Nil
import Derived.Shelf.SortM.Plain
import Derived.Shelf.SortM.SortNone
import Derived.Ground.GgzProg
import Derived.Ground.SlgmProg
import Derived.Test.YtjgooecohepkoaaGreatDoorProg
import Derived.Test.YtjgooecohepkoaaGreatDoorSAB
import Derived.Test.YtjgooecohepkoaaGreatDoorEAO
import Derived.Test.YtjgooecohepkoaaGreatDoorSAG
set_option linter.unusedVariables false
set_option linter.unusedSimpArgs false
/-
  DERIVED: THE SHELF's CONTRACTS AT THIS DUMP, IN PLAIN WORDS (tools/lay-plain.mjs out of 'SortIter.lean', which tools/lay-shelf.mjs wrote): THE SAME DECLARATIONS UNDER THE SAME NAMES: 'import', 'namespace', 'open', 'def', 'theorem' AND NOTHING ELSE: no command of the shelf's: FOR A HAND-IN. Each laying: the table of numbers ('.._ren') and one theorem, a field a fact of the dump's own or the kernel's comparison; each contract: ONE APPLICATION.
-/
namespace Go.Proofs
open Go.Shelf
def Tryz.keys78_ren : Go.Shelf.Ren := ⟨fun | 7 => 78 | 10 => 124 | n => n, fun | 23 => 56 | 26 => 9 | 3 => 4 | 28 => 105 | 0 => 0 | 27 => 104 | 33 => 93 | 4 => 4 | n => n, fun | n => n⟩
theorem Tryz.keys78 : Go.Proofs.SlLaysZ.n7 Tryz.prog Tryz.keys78_ren := {
  mixed := by kernel_rfl
  f7 := ⟨Tryz.f78.name, by decide, Tryz.func78.trans (congrArg some (by kernel_rfl))⟩
  f10 := ⟨Tryz.f124.name, by decide, Tryz.func124.trans (congrArg some (by kernel_rfl))⟩
  t0 := Tryz.underlying0
  a0 := Tryz.isAgg0
  z0 := Tryz.sizeOf0
  v0 := Tryz.zeroValue0
  t4 := Tryz.underlying4
  a4 := Tryz.isAgg4
  z4 := Tryz.sizeOf4
  v4 := Tryz.zeroValue4
  t23 := Tryz.underlying56
  a23 := Tryz.isAgg56
  z23 := Tryz.sizeOf56
  v23 := Tryz.zeroValue56
  t26 := Tryz.underlying9
  a26 := Tryz.isAgg9
  z26 := Tryz.sizeOf9
  v26 := Tryz.zeroValue9
  t27 := Tryz.underlying104
  a27 := Tryz.isAgg104
  z27 := Tryz.sizeOf104
  v27 := Tryz.zeroValue104
  t28 := Tryz.underlying105
  a28 := Tryz.isAgg105
  z28 := Tryz.sizeOf105
  v28 := Tryz.zeroValue105
  t33 := Tryz.underlying93
  a33 := Tryz.isAgg93
  z33 := Tryz.sizeOf93
  v33 := Tryz.zeroValue93 }
def Tryz.sorted77_ren : Go.Shelf.Ren := ⟨fun | 6 => 77 | 8 => 122 | 9 => 123 | 11 => 178 | 13 => 180 | 12 => 179 | 23 => 225 | 24 => 226 | 14 => 216 | 15 => 217 | 16 => 218 | 17 => 219 | 18 => 220 | 19 => 221 | 20 => 222 | 21 => 223 | 22 => 224 | 25 => 244 | 26 => 245 | 27 => 246 | 28 => 247 | 29 => 248 | 30 => 127 | 31 => 269 | n => n, fun | 26 => 9 | 28 => 105 | 24 => 25 | 0 => 0 | 3 => 3 | 37 => 197 | 48 => 236 | 50 => 135 | 4 => 4 | 40 => 229 | 39 => 228 | 45 => 109 | 5 => 5 | 9 => 9 | 51 => 253 | 55 => 257 | 57 => 271 | 58 => 272 | 33 => 93 | n => n, fun | n => n⟩
theorem Tryz.sorted77 : Go.Proofs.SlLaysZ.n6 Tryz.prog Tryz.sorted77_ren := {
  mixed := by kernel_rfl
  f6 := ⟨Tryz.f77.name, by decide, Tryz.func77.trans (congrArg some (by kernel_rfl))⟩
  f8 := ⟨Tryz.f122.name, by decide, Tryz.func122.trans (congrArg some (by kernel_rfl))⟩
  f11 := ⟨Tryz.f178.name, by decide, Tryz.func178.trans (congrArg some (by kernel_rfl))⟩
  t0 := Tryz.underlying0
  a0 := Tryz.isAgg0
  z0 := Tryz.sizeOf0
  v0 := Tryz.zeroValue0
  t24 := Tryz.underlying25
  a24 := Tryz.isAgg25
  z24 := Tryz.sizeOf25
  v24 := Tryz.zeroValue25
  t26 := Tryz.underlying9
  a26 := Tryz.isAgg9
  z26 := Tryz.sizeOf9
  v26 := Tryz.zeroValue9
  t28 := Tryz.underlying105
  a28 := Tryz.isAgg105
  z28 := Tryz.sizeOf105
  v28 := Tryz.zeroValue105
  i26 := by kernel_rfl }
def Tryz.sort123_ren : Go.Shelf.Ren := ⟨fun | 6 => 123 | 8 => 180 | 9 => 179 | 19 => 225 | 20 => 226 | 21 => 216 | 22 => 217 | 23 => 218 | 24 => 219 | 25 => 220 | 26 => 221 | 27 => 222 | 28 => 223 | 29 => 224 | 36 => 244 | 31 => 245 | 32 => 246 | 37 => 247 | 38 => 248 | 39 => 127 | 41 => 269 | n => n, fun | 27 => 25 | 29 => 9 | 3 => 3 | 32 => 197 | 26 => 25 | 0 => 0 | 44 => 236 | 46 => 135 | 4 => 4 | 36 => 229 | 35 => 228 | 41 => 109 | 5 => 5 | 9 => 9 | 53 => 253 | 57 => 257 | 63 => 271 | 64 => 272 | n => n, fun | n => n⟩
theorem Tryz.sort123 : Go.Proofs.SlLaysM.n6 Tryz.prog Tryz.sort123_ren := {
  mixed := by kernel_rfl
  f6 := ⟨Tryz.f123.name, by decide, Tryz.func123.trans (congrArg some (by kernel_rfl))⟩
  f8 := Tryz.func180.trans (congrArg some (by kernel_rfl))
  f9 := ⟨Tryz.f179.name, by decide, Tryz.func179.trans (congrArg some (by kernel_rfl))⟩
  f19 := Tryz.func225.trans (congrArg some (by kernel_rfl))
  f20 := Tryz.func226.trans (congrArg some (by kernel_rfl))
  f21 := ⟨Tryz.f216.name, by decide, Tryz.func216.trans (congrArg some (by kernel_rfl))⟩
  f22 := ⟨Tryz.f217.name, by decide, Tryz.func217.trans (congrArg some (by kernel_rfl))⟩
  f23 := ⟨Tryz.f218.name, by decide, Tryz.func218.trans (congrArg some (by kernel_rfl))⟩
  f24 := ⟨Tryz.f219.name, by decide, Tryz.func219.trans (congrArg some (by kernel_rfl))⟩
  f25 := ⟨Tryz.f220.name, by decide, Tryz.func220.trans (congrArg some (by kernel_rfl))⟩
  f26 := ⟨Tryz.f221.name, by decide, Tryz.func221.trans (congrArg some (by kernel_rfl))⟩
  f27 := ⟨Tryz.f222.name, by decide, Tryz.func222.trans (congrArg some (by kernel_rfl))⟩
  f28 := ⟨Tryz.f223.name, by decide, Tryz.func223.trans (congrArg some (by kernel_rfl))⟩
  f29 := ⟨Tryz.f224.name, by decide, Tryz.func224.trans (congrArg some (by kernel_rfl))⟩
  f31 := Tryz.func245.trans (congrArg some (by kernel_rfl))
  f32 := Tryz.func246.trans (congrArg some (by kernel_rfl))
  f36 := ⟨Tryz.f244.name, by decide, Tryz.func244.trans (congrArg some (by kernel_rfl))⟩
  f37 := ⟨Tryz.f247.name, by decide, Tryz.func247.trans (congrArg some (by kernel_rfl))⟩
  f38 := ⟨Tryz.f248.name, by decide, Tryz.func248.trans (congrArg some (by kernel_rfl))⟩
  f39 := ⟨Tryz.f127.name, by decide, Tryz.func127.trans (congrArg some (by kernel_rfl))⟩
  f41 := ⟨Tryz.f269.name, by decide, Tryz.func269.trans (congrArg some (by kernel_rfl))⟩
  t0 := Tryz.underlying0
  a0 := Tryz.isAgg0
  z0 := Tryz.sizeOf0
  v0 := Tryz.zeroValue0
  t3 := Tryz.underlying3
  a3 := Tryz.isAgg3
  z3 := Tryz.sizeOf3
  v3 := Tryz.zeroValue3
  t4 := Tryz.underlying4
  a4 := Tryz.isAgg4
  z4 := Tryz.sizeOf4
  v4 := Tryz.zeroValue4
  t5 := Tryz.underlying5
  a5 := Tryz.isAgg5
  z5 := Tryz.sizeOf5
  v5 := Tryz.zeroValue5
  t9 := Tryz.underlying9
  a9 := Tryz.isAgg9
  z9 := Tryz.sizeOf9
  v9 := Tryz.zeroValue9
  t26 := Tryz.underlying25
  a26 := Tryz.isAgg25
  z26 := Tryz.sizeOf25
  v26 := Tryz.zeroValue25
  t27 := Tryz.underlying25
  a27 := Tryz.isAgg25
  z27 := Tryz.sizeOf25
  v27 := Tryz.zeroValue25
  t29 := Tryz.underlying9
  a29 := Tryz.isAgg9
  z29 := Tryz.sizeOf9
  v29 := Tryz.zeroValue9
  t32 := Tryz.underlying197
  a32 := Tryz.isAgg197
  z32 := Tryz.sizeOf197
  v32 := Tryz.zeroValue197
  t35 := Tryz.underlying228
  a35 := Tryz.isAgg228
  z35 := Tryz.sizeOf228
  v35 := Tryz.zeroValue228
  t36 := Tryz.underlying229
  a36 := Tryz.isAgg229
  z36 := Tryz.sizeOf229
  v36 := Tryz.zeroValue229
  t41 := Tryz.underlying109
  a41 := Tryz.isAgg109
  z41 := Tryz.sizeOf109
  v41 := Tryz.zeroValue109
  t44 := Tryz.underlying236
  a44 := Tryz.isAgg236
  z44 := Tryz.sizeOf236
  v44 := Tryz.zeroValue236
  t46 := Tryz.underlying135
  a46 := Tryz.isAgg135
  z46 := Tryz.sizeOf135
  v46 := Tryz.zeroValue135
  t53 := Tryz.underlying253
  a53 := Tryz.isAgg253
  z53 := Tryz.sizeOf253
  v53 := Tryz.zeroValue253
  t57 := Tryz.underlying257
  a57 := Tryz.isAgg257
  z57 := Tryz.sizeOf257
  v57 := Tryz.zeroValue257
  t63 := Tryz.underlying271
  a63 := Tryz.isAgg271
  z63 := Tryz.sizeOf271
  v63 := Tryz.zeroValue271
  t64 := Tryz.underlying272
  a64 := Tryz.isAgg272
  z64 := Tryz.sizeOf272
  v64 := Tryz.zeroValue272 }
end Go.Proofs
namespace Go.Proofs.YtjgooecohepkoaaGreatDoor
open Go Go.Abs Go.RowKit Go.Maps Go.Sort Go.Shelf
/-- slices.Sorted over maps.Keys of a set of texts: the texts in order, as a new slice. -/
theorem f77_keys (L : List (List UInt8)) (hn : L.Nodup) (hl : ∀ s ∈ L, s.length ≤ 16777216) (hlen : L.length ≤ 16777216) :
    FnOK sys 77 [.fn (.func 124) [] [.ref 1 0]] [(0, .mp (setM L)), (1, .box [.mp 0])] (.own 2 L.length) [(2, .row 9 1 ((sortS L).map fun s => [.s s])), (0, .mp (setM L)), (1, .box [.mp 0])] := by
  refine ⟨⟨Tryz.f77, by kernel_rfl, rfl, rfl⟩, fun E w g vs hr hvs hs hf => ?_⟩
  have hmx : ∀ n, n ≤ 16777216 → n ≤ maxLen := fun n h => le_max h
  obtain ⟨v, r, rfl, hv, hr0⟩ := RepL.cons_iff.1 hvs
  have hr1 := RepL.nil_iff.1 hr0
  subst hr1
  simp only [Rep] at hv
  obtain ⟨v1, v2, rfl, q1, q2⟩ := hv
  have q1' := RepL.nil_iff.1 q1
  subst q1'
  obtain ⟨p, r, rfl, hp, hr0⟩ := RepL.cons_iff.1 q2
  have hr1 := RepL.nil_iff.1 hr0
  subst hr1
  simp only [Rep] at hp
  obtain ⟨bx, cx, hφ1, rfl⟩ := hp
  obtain ⟨⟨p1, p2⟩, hq1, ⟨b1, arr1, t1, e1, hh1, hl1⟩, _⟩ := hs.obj 1 (.box [.mp 0]) (by simp [Abs.look])
  rw [hφ1] at hq1
  cases hq1
  simp only [Option.some.injEq] at e1
  subst e1
  obtain ⟨x, r, ea, hx, hr0⟩ := RepL.cons_iff.1 hl1
  have hr1 := RepL.nil_iff.1 hr0
  subst hr1
  simp only [Rep] at hx
  obtain ⟨b, c, hφ0, rfl⟩ := hx
  obtain ⟨⟨p1, p2⟩, hq0, ⟨b0, arr, clock, e0, hh0, hk0, hv0, hb1, hb2⟩, _⟩ := hs.obj 0 (.mp (setM L)) (by simp [Abs.look])
  rw [hφ0] at hq0
  cases hq0
  simp only [Option.some.injEq] at e0
  subst e0
  have harr1 : arr1 = #[.map (some b)] := by apply Array.toList_inj.1; rw [ea]
  have hcell : w.cell? ⟨bx, 0, none⟩ = some (.map (some b)) := by
    rw [cell_of_row w bx 0 arr1 t1 (0, 0) hh1, harr1]; rfl
  have hbx : bx < w.heap.size := hr.wf.flt 1 bx cx hφ1
  have hkeys : arr.toList.map (·.key) = L.map fun s => Value.string ⟨⟨s⟩⟩ := by rw [hk0]; simp [setM]
  obtain ⟨D0, hown, hperm, hsize⟩ := keys_map (P := Tryz.prog) (k := 9) Tryz.underlying9 hh0 hkeys hb1 hb2 hn (fun s hs => hmx _ (hl s hs)) (hmx _ hlen)
  have hseq : SeqGives Fence.wide 2 Tryz.prog 124 #[.pointer (some ⟨bx, 0, none⟩)] encStr (fun ss => ss.Perm (strKeys D0)) (Maps.size D0) w :=
    AnyZ.keys_gives (ρ := Tryz.keys78_ren) { Tryz.keys78 with } Fence.wide _ trivial rfl (by omega) bx b L.length D0 w hbx hcell hown
  have hsorts : AnyZ.SortsIn Tryz.prog Tryz.sorted77_ren Fence.wide 4 :=
    ⟨fun blk off cap ss W hH hblk hsz => callsIn_wide.2 (AnyM.slices_Sort_string Tryz.sort123 blk off cap ss W hH hblk hsz),
     fun p cap W => callsIn_wide.2 (AnyM.slices_Sort_string_none Tryz.sort123 p cap W)⟩
  have hcall := AnyZ.sorted_in Tryz.sorted77 Fence.wide 5 trivial trivial trivial trivial rfl (by omega) hsorts (enters_of Tryz.func123 (by kernel_rfl) rfl) 124 #[.pointer (some ⟨bx, 0, none⟩)] trivial (enters_of Tryz.func124 (by kernel_rfl) rfl) _ _ (by rw [hsize]; exact hmx _ hlen) (by rw [hsize]; omega) w hseq
  refine (callsIn_env E hcall).mono ?_
  rintro e w' ⟨v, ss, rfl, hS, hrow, _, hbl⟩
  have hss : ss.Perm L := hS.trans hperm
  have hsl : ss.length = L.length := hss.length_eq
  have hφ2 : g.φ 2 = none := hf 2 (by simp [Abs.look]) (by simp [Abs.look])
  have hso : ss.mergeSort (fun x y => decide (x ≤ y)) = sortS L := sortS_of_perm hss
  rw [hso, hsl] at hrow
  obtain ⟨g', hm, hrep⟩ := move_below (nx := 2) (es := (sortS L).map fun s => [.s s]) hr hφ2 hbl hrow (by simp [sortS_length]) (by simp) (by
    clear hrow
    induction sortS L with
    | nil => simp [RepL]
    | cons x r ih => simp only [List.map_cons, List.flatten_cons, List.singleton_append, RepL, Rep]; exact ⟨trivial, ih⟩)
  have m1 := Move.frame hr 0 (.mp (setM L)) (pre := []) (hs.sub fun l o h => by
    simp only [List.nil_append, Abs.look] at h ⊢
    split at h
    · rename_i e; rw [if_pos e]; exact h
    · cases h) (by simp [Abs.look]) (by simp [Abs.look]) hm (fun l h1 h2 => by
      simp only [Abs.look] at h2
      split at h2
      · rename_i e; subst e; exact hφ2
      · exact absurd rfl h2)
  have m2 := Move.frame hr 1 (.box [.mp 0]) (pre := [(0, .mp (setM L))]) hs (by simp [Abs.look]) (by simp [Abs.look]) m1 (fun l h1 h2 => by
      simp only [Abs.look, List.singleton_append, List.cons_append, List.nil_append] at h1 h2
      split at h2
      · rename_i e; subst e; exact hφ2
      · exact absurd h1 h2)
  exact ⟨v, g', rfl, m2, hrep⟩
end Go.Proofs.YtjgooecohepkoaaGreatDoor
set_option linter.unusedSimpArgs false
namespace Go.Proofs.YtjgooecohepkoaaGreatDoor
open Go Go.Abs
theorem keysS_setM : ∀ {es : List (Value × D)} {L : List (List UInt8)}, keysS es = some L → es = setM L
  | [], L, h => by simp only [keysS, Option.some.injEq] at h; subst h; rfl
  | e :: r, L, h => by
    unfold keysS at h
    split at h
    · rename_i he; cases he
    · rename_i s r' he
      simp only [Option.map_eq_some_iff] at h
      obtain ⟨L', h1, rfl⟩ := h
      have := keysS_setM h1
      cases he
      rw [this]
      simp [setM]
    · cases h
theorem f77_at (r m nx : Nat) (hrm : r ≠ m) (hr : r ≠ nx) (hm : m ≠ nx) (L : List (List UInt8)) (hn : L.Nodup) (hl : ∀ s ∈ L, s.length ≤ 16777216) (hlen : L.length ≤ 16777216) :
    FnOK sys 77 [.fn (.func 124) [] [.ref r 0]] [(m, .mp (setM L)), (r, .box [.mp m])] (.own nx L.length) [(nx, .row 9 1 ((sortS L).map fun s => [.s s])), (m, .mp (setM L)), (r, .box [.mp m])] := by
  have hset : ∀ θ, (setM L).map (fun x => (x.1, subD θ x.2)) = setM L := by
    intro θ
    simp [setM, subD]
  have hrow : ∀ (θ : Nat → Option Nat) (l : List (List UInt8)), ((l.map fun s => [D.s s]).map (subL θ)) = l.map fun s => [D.s s] := by
    intro θ l
    simp [subL, subD]
  have h := FnOK.ren (args' := [.fn (.func 124) [] [.ref r 0]]) [(nx, 2), (m, 0), (r, 1)] (f77_keys L hn hl hlen) ?_ ?_ ?_ ?_
  · have e : ((sortS L).map fun s => [D.s s]).map (subL (newOf [(nx, 2), (m, 0), (r, 1)])) = (sortS L).map fun s => [D.s s] := hrow _ _
    have e2 : ∀ θ : Nat → Option Nat, (subL θ ∘ fun s : List UInt8 => [D.s s]) = fun s => [D.s s] := by
      intro θ; funext s; simp [subL, subD]
    simpa [subS, Abs.look, newOf, subO, subD, subL, hset, e2] using h
  · have hb : ∀ a b : Nat, a ≠ b → Nat.beq a b = false := by
      intro a b h
      cases e : Nat.beq a b with
      | false => rfl
      | true => exact absurd (Nat.eq_of_beq_eq_true e) h
    simp [injB, hb _ _ hm, hb _ _ hr, hb _ _ hrm]
    exact ⟨⟨rfl, rfl⟩, rfl⟩
  · simp [subL, subD, preOf, oldOf, idP, Abs.look, hrm, hr, hm, Ne.symm hrm, Ne.symm hr, Ne.symm hm]
  · simp [mapS, subO, subL, subD, newOf, hset, preOf, oldOf, idP, Abs.look, hrm, hr, hm, Ne.symm hrm, Ne.symm hr, Ne.symm hm]
  · simp [newOf]
/-- What is known of slices.Sorted over maps.Keys. -/
noncomputable def hk : Nat → List D → Store → Nat → Option XC := fun k args S nx => whn (Nat.beq k 77) (match args with
  | [.fn (.func q) [] [.ref r o]] => whn (Nat.beq q 124 && Nat.beq o 0) (match lookB S r with
    | some (.box [.mp m]) => match lookB S m with
      | some (.mp es) => match keysS es with
        | some L => whn (nodupS L && (L.all fun s => Nat.ble s.length 16777216) && Nat.ble L.length 16777216 && Nat.blt r nx && Nat.blt m nx && !Nat.beq r m)
            (some (.own nx L.length, [(m, .mp es), (r, .box [.mp m])], [(nx, .row 9 1 ((isortS L).map fun s => [.s s])), (m, .mp es), (r, .box [.mp m])], nx + 1))
        | none => none
      | _ => none
    | _ => none)
  | _ => none)
theorem hk_ok : HookOK sys hk := by
  intro k args S nx d pre post nx' h
  simp only [hk, whn_some, lookB_eq] at h
  obtain ⟨hk, h⟩ := h
  have := Nat.eq_of_beq_eq_true hk
  subst this
  split at h
  · rename_i q r o
    simp only [whn_some, Bool.and_eq_true] at h
    obtain ⟨⟨hq, ho⟩, h⟩ := h
    have e1 := Nat.eq_of_beq_eq_true hq
    have e2 := Nat.eq_of_beq_eq_true ho
    subst e1 e2
    split at h
    · rename_i m hr
      split at h
      · rename_i es hm
        split at h
        · rename_i L hL
          simp only [whn_some, Bool.and_eq_true, nodupS_iff, List.all_eq_true, Nat.ble_eq, Nat.blt_eq, Bool.not_eq_true', Option.some.injEq, Prod.mk.injEq] at h
          obtain ⟨⟨⟨⟨⟨⟨h1, h2⟩, h3⟩, h4⟩, h5⟩, h6⟩, rfl, rfl, rfl, rfl⟩ := h
          have hrm : r ≠ m := by rintro rfl; simp at h6
          have hes := keysS_setM hL
          subst hes
          rw [isortS_eq]
          refine ⟨f77_at r m nx hrm (by omega) (by omega) L h1 h2 h3, fun x hx => ?_, Nat.le_succ _, fun x hx hn => ?_⟩
          · simp at hx
            rcases hx with rfl | rfl
            · exact hm
            · exact hr
          · simp at hx
            rcases hx with rfl | rfl | rfl
            · exact ⟨Nat.le_refl _, Nat.lt_succ_self _⟩
            · simp [Abs.look] at hn
            · simp only [Abs.look] at hn; split at hn <;> simp at hn
        · cases h
      · cases h
    · cases h
  · cases h
end Go.Proofs.YtjgooecohepkoaaGreatDoor
namespace Go.Proofs.YtjgooecohepkoaaGreatDoor
open Go Go.Abs
set_option linter.unusedSimpArgs false
def insAll (k l : List (List UInt8)) : List (List UInt8) := l.foldl ins k
theorem setM_kindP (k : List (List UInt8)) : ∀ e ∈ setM k, (match TK.str, e.1 with | .str, .string _ => true | .int k, .int k' _ => k == k' | _, _ => false) = true := setM_kind k
theorem setM_sub (k : List (List UInt8)) (θ : Nat → Option Nat) : (setM k).map (fun x => (x.1, subD θ x.2)) = setM k := by
  simp [setM, subD]
theorem fires_any {k : List (List UInt8)} {d : DP} (h : (d.src.any fun s => !decide (s ∈ k)) = true) : fires k d = false := by
  have : d.src.all (fun s => decide (s ∈ k)) = false := by
    rw [List.all_eq_not_any_not, h]; rfl
  simp [fires, this]
theorem fires_all {k : List (List UInt8)} {d : DP} (h : (d.src.any fun s => !decide (s ∈ k)) = false) : fires k d = !decide (d.dst ∈ k) := by
  have : d.src.all (fun s => decide (s ∈ k)) = true := by
    rw [List.all_eq_not_any_not, h]; rfl
  simp [fires, this]
theorem grow1_left {l : List DP} {k : List (List UInt8)} (h : left l k = 0) : grow1 l k = none := by
  cases hg : grow1 l k with
  | none => rfl
  | some x => have := left_lt hg; omega
/-- More rounds than dependencies that are open change nothing. -/
theorem growN_fuel {l : List DP} : ∀ (n : Nat) (k : List (List UInt8)), left l k ≤ n → growN l n k = growN l (left l k) k
  | 0, k, h => by
    have : left l k = 0 := by omega
    rw [this]
  | n + 1, k, h => by
    cases hg : grow1 l k with
    | none =>
      have e : ∀ m, growN l m k = k := by
        intro m
        cases m with
        | zero => rfl
        | succ m => simp [growN, hg]
      rw [e, e]
    | some x =>
      have hlt := left_lt hg
      obtain ⟨m, hm⟩ : ∃ m, left l k = m + 1 := ⟨left l k - 1, by omega⟩
      rw [hm]
      simp only [growN, hg]
      rw [growN_fuel n _ (by omega)]
      rw [growN_fuel m _ (by omega)]
termination_by n => n
decreasing_by all_goals omega
/-- What columns determine. -/
def closL (l : List DP) (src : List (List UInt8)) : List (List UInt8) := growN l (left l (insAll [] src)) (insAll [] src)
theorem ins_nodup {k : List (List UInt8)} (h : k.Nodup) (x : List UInt8) : (ins k x).Nodup := by
  unfold ins
  split
  · exact h
  · rename_i hx
    rw [List.nodup_append]
    refine ⟨h, by simp, ?_⟩
    intro a ha b hb
    simp at hb
    subst hb
    rintro rfl
    exact hx ha
theorem insAll_ok : ∀ (l k : List (List UInt8)) (P : List UInt8 → Prop), k.Nodup → (∀ s ∈ k, P s) → (∀ s ∈ l, P s) → (insAll k l).Nodup ∧ (∀ s ∈ insAll k l, P s) ∧ (insAll k l).length ≤ k.length + l.length
  | [], k, P, h, hk, _ => ⟨h, hk, by simp [insAll]⟩
  | x :: r, k, P, h, hk, hl => by
    have hk' : ∀ s ∈ ins k x, P s := by
      intro s hs
      unfold ins at hs
      split at hs
      · exact hk s hs
      · rcases List.mem_append.1 hs with hs | hs
        · exact hk s hs
        · simp at hs; rw [hs]; exact hl x (by simp)
    have hlen : (ins k x).length ≤ k.length + 1 := by unfold ins; split <;> simp
    obtain ⟨h1, h2, h3⟩ := insAll_ok r (ins k x) P (ins_nodup h x) hk' (fun s hs => hl s (by simp [hs]))
    refine ⟨h1, h2, ?_⟩
    simp only [insAll, List.foldl_cons, List.length_cons] at h3 ⊢
    omega
theorem grow1_new {l : List DP} {k : List (List UInt8)} {x : List UInt8} (h : grow1 l k = some x) : x ∉ k ∧ ∃ d ∈ l, d.dst = x := by
  unfold grow1 at h
  simp only [Option.map_eq_some_iff] at h
  obtain ⟨d, hd, rfl⟩ := h
  have hf := List.find?_some hd
  simp only [fires, Bool.and_eq_true, Bool.not_eq_true', decide_eq_false_iff_not] at hf
  exact ⟨hf.2, d, List.mem_of_find?_eq_some hd, rfl⟩
theorem growN_ok {l : List DP} {P : List UInt8 → Prop} (hd : ∀ d ∈ l, P d.dst) : ∀ (n : Nat) (k : List (List UInt8)), k.Nodup → (∀ s ∈ k, P s) → (growN l n k).Nodup ∧ (∀ s ∈ growN l n k, P s) ∧ (growN l n k).length ≤ k.length + n
  | 0, k, h, hk => ⟨h, hk, by simp [growN]⟩
  | n + 1, k, h, hk => by
    simp only [growN]
    split
    · rename_i x hx
      obtain ⟨h1, d, hm, rfl⟩ := grow1_new hx
      have hn : (k ++ [d.dst]).Nodup := by have := ins_nodup h d.dst; simpa [ins, h1] using this
      obtain ⟨q1, q2, q3⟩ := growN_ok hd n (k ++ [d.dst]) hn (fun s hs => by
        rcases List.mem_append.1 hs with hs | hs
        · exact hk s hs
        · simp at hs; rw [hs]; exact hd d hm)
      refine ⟨q1, q2, ?_⟩
      simp at q3
      omega
    · exact ⟨h, hk, by omega⟩
theorem left_le (l : List DP) (k : List (List UInt8)) : left l k ≤ l.length := List.length_filter_le _ _
theorem closL_ok (l : List DP) (src : List (List UInt8)) (P : List UInt8 → Prop) (hs : ∀ s ∈ src, P s) (hd : ∀ d ∈ l, P d.dst) : (closL l src).Nodup ∧ (∀ s ∈ closL l src, P s) ∧ (closL l src).length ≤ src.length + l.length := by
  obtain ⟨h1, h2, h3⟩ := insAll_ok src [] P (by simp) (by simp) hs
  obtain ⟨q1, q2, q3⟩ := growN_ok hd (left l (insAll [] src)) (insAll [] src) h1 h2
  have := left_le l (insAll [] src)
  refine ⟨q1, q2, ?_⟩
  unfold closL
  simp at h3
  omega
theorem f78_at (k : List (List UInt8)) : FnOK sys 78 [.mp 0] [(0, .mp (setM k))] (.fn (.func 124) [] [.ref 2 0]) [(0, .mp (setM k)), (2, .box [.mp 0])] := by
  have h := FnOK.ren (args' := [.mp 0]) [(0, 0), (2, 1)] (f78_ok (setM k) (setM_sub k _) (setM_sub k _)) rfl rfl ?_ rfl
  · simpa [subS, Abs.look, subO, subL, subD, newOf, setM_sub] using h
  · simp [mapS, subO, subL, subD, newOf, preOf, oldOf, idP, Abs.look, setM_sub]
theorem f27_ok (l : List DP) (src : List (List UInt8)) (hs : ∀ s ∈ src, s.length ≤ 16777216) (hd : ∀ d ∈ l, d.dst.length ≤ 16777216) (hc : src.length + l.length ≤ 16777216) : FnOK sys 27 [depsD l, strsD src] [] (strsD (sortS (closL l src))) [] := by
  refine FnOK.intro Tryz.f27 (by kernel_rfl) rfl rfl [.tmp 4] rfl 0 rfl (Nat.le_of_ble_eq_true rfl) rfl rfl fun E hN h0 => W.bound 0 rfl fun hb => W.bound 1 rfl fun hb2 => W.code (N := 47) [] hN ?_
  simp only [List.length_map, maxLen] at hb hb2
  repeat (first | refine st_end rfl ?_ | ((first | refine st_op fun K k => ?_ | refine st_op0 fun K k => ?_ | refine st_opT fun K k => ?_ | refine st_grd rfl fun A B C k k' k2 => ?_ | refine st_cond fun A B k k' => ?_); simp only [go_sem, reduceIte, Nat.reduceEqDiff, Nat.reduceAdd, Nat.reduceMul, Nat.reduceSub, Nat.reduceLT, Nat.reduceLeDiff, Int.reduceToNat, reduceCtorEq, Int.reduceEq, Int.reduceBEq, Int.reduceLE, Int.reduceLT]; first | (refine k _ _ _ _ _ ?_; clear k K) | (refine k ?_; clear k k' k2 A B C) | (refine k' ?_; clear k k' k2 A B C) | (refine k2 ?_; clear k k' k2 A B C) | (refine k ?_; clear k k' A B) | (refine k' ?_; clear k k' A B)))
  refine W.loopP (fun i : Nat => ⟨[(0, depsD l), (5, .ref 1 0), (12, strsD src), (13, .v (.int .i64 src.length)), (14, .v (.int .i64 i))],
      [(0, .mp (setM (insAll [] (src.take i)))), (1, .box [.mp 0])], 2, []⟩)
    (fun i => i ≤ src.length) (fun i => src.length - i) 0 (Nat.zero_le _) (Into.le ?_ ?_ (Nat.le_refl _) rfl) fun i hi => W.code (N := 47) [] hN ?_
  · simp only [go_sem, reduceIte, Nat.reduceEqDiff, Nat.reduceAdd, Nat.reduceMul, Nat.reduceSub, Nat.reduceLT, Nat.reduceLeDiff, Int.reduceToNat, reduceCtorEq, Int.reduceEq, Int.reduceBEq, Int.reduceLE, Int.reduceLT]
    exact LeD.refl _
  · simp only [go_sem, reduceIte, Nat.reduceEqDiff, Nat.reduceAdd, Nat.reduceMul, Nat.reduceSub, Nat.reduceLT, Nat.reduceLeDiff, Int.reduceToNat, reduceCtorEq, Int.reduceEq, Int.reduceBEq, Int.reduceLE, Int.reduceLT]
    exact LeO.refl _
  repeat (first | refine st_end rfl ?_ | ((first | refine st_op fun K k => ?_ | refine st_op0 fun K k => ?_ | refine st_opT fun K k => ?_ | refine st_grd rfl fun A B C k k' k2 => ?_ | refine st_cond fun A B k k' => ?_); simp only [go_sem, reduceIte, Nat.reduceEqDiff, Nat.reduceAdd, Nat.reduceMul, Nat.reduceSub, Nat.reduceLT, Nat.reduceLeDiff, Int.reduceToNat, reduceCtorEq, Int.reduceEq, Int.reduceBEq, Int.reduceLE, Int.reduceLT]; first | (refine k _ _ _ _ _ ?_; clear k K) | (refine k ?_; clear k k' k2 A B C) | (refine k' ?_; clear k k' k2 A B C) | (refine k2 ?_; clear k k' k2 A B C) | (refine k ?_; clear k k' A B) | (refine k' ?_; clear k k' A B)))
  refine st_cond fun A B a b => ?_; simp only [go_sem, reduceIte, Nat.reduceEqDiff, Nat.reduceAdd, Nat.reduceMul, Nat.reduceSub, Nat.reduceLT, Nat.reduceLeDiff, Int.reduceToNat, reduceCtorEq, Int.reduceEq, Int.reduceBEq, Int.reduceLE, Int.reduceLT]; refine ⟨fun g => a ?_, fun g => b ?_⟩ <;> clear a b A B
  · obtain ⟨x, hx⟩ := getS (l := src) (i := i) (by omega)
    repeat (first | refine st_end rfl ?_ | ((first | refine st_op fun K k => ?_ | refine st_op0 fun K k => ?_ | refine st_opT fun K k => ?_ | refine st_grd rfl fun A B C k k' k2 => ?_ | refine st_cond fun A B k k' => ?_); simp only [go_sem, reduceIte, Nat.reduceEqDiff, Nat.reduceAdd, Nat.reduceMul, Nat.reduceSub, Nat.reduceLT, Nat.reduceLeDiff, Int.reduceToNat, reduceCtorEq, Int.reduceEq, Int.reduceBEq, Int.reduceLE, Int.reduceLT, hx]; first | (refine k _ _ _ _ _ ?_; clear k K) | (refine k ?_; clear k k' k2 A B C) | (refine k' ?_; clear k k' k2 A B C) | (refine k2 ?_; clear k k' k2 A B C) | (refine k ?_; clear k k' A B) | (refine k' ?_; clear k k' A B)))
    refine st_op0 fun K k => ?_
    simp only [go_sem, reduceIte, Nat.reduceEqDiff, Nat.reduceAdd, Nat.reduceMul, Nat.reduceSub, Nat.reduceLT, Nat.reduceLeDiff, Int.reduceToNat, reduceCtorEq, Int.reduceEq, Int.reduceBEq, Int.reduceLE, Int.reduceLT]
    refine ⟨setM_kindP _, ?_⟩
    rw [putM_set]
    refine k _ _ _ _ _ ?_; clear k K
    have w5 : IntKind.wrap .i64 ((i : Int) + 1) = ((i + 1 : Nat) : Int) := wrapTo (by omega)
    repeat (first | refine st_end rfl ?_ | ((first | refine st_op fun K k => ?_ | refine st_op0 fun K k => ?_ | refine st_opT fun K k => ?_ | refine st_grd rfl fun A B C k k' k2 => ?_ | refine st_cond fun A B k k' => ?_); simp only [go_sem, reduceIte, Nat.reduceEqDiff, Nat.reduceAdd, Nat.reduceMul, Nat.reduceSub, Nat.reduceLT, Nat.reduceLeDiff, Int.reduceToNat, reduceCtorEq, Int.reduceEq, Int.reduceBEq, Int.reduceLE, Int.reduceLT, w5]; first | (refine k _ _ _ _ _ ?_; clear k K) | (refine k ?_; clear k k' k2 A B C) | (refine k' ?_; clear k k' k2 A B C) | (refine k2 ?_; clear k k' k2 A B C) | (refine k ?_; clear k k' A B) | (refine k' ?_; clear k k' A B)))
    have e5 : src.take (i + 1) = src.take i ++ [x] := by rw [List.take_add_one, hx]; rfl
    refine ⟨i + 1, by omega, by omega, Into.le ?_ ?_ (Nat.le_refl _) rfl⟩
    · simp only [go_sem, reduceIte, Nat.reduceEqDiff, Nat.reduceAdd, Nat.reduceMul, Nat.reduceSub, Nat.reduceLT, Nat.reduceLeDiff, Int.reduceToNat, reduceCtorEq, Int.reduceEq, Int.reduceBEq, Int.reduceLE, Int.reduceLT]
    · simp only [go_sem, reduceIte, Nat.reduceEqDiff, Nat.reduceAdd, Nat.reduceMul, Nat.reduceSub, Nat.reduceLT, Nat.reduceLeDiff, Int.reduceToNat, reduceCtorEq, Int.reduceEq, Int.reduceBEq, Int.reduceLE, Int.reduceLT, e5, insAll, List.foldl_append, List.foldl_cons, List.foldl_nil]
  · obtain rfl : i = src.length := by omega
    refine iq Into.refl ?_
    repeat (first | refine st_end rfl ?_ | ((first | refine st_op fun K k => ?_ | refine st_op0 fun K k => ?_ | refine st_opT fun K k => ?_ | refine st_grd rfl fun A B C k k' k2 => ?_ | refine st_cond fun A B k k' => ?_); simp only [go_sem, reduceIte, Nat.reduceEqDiff, Nat.reduceAdd, Nat.reduceMul, Nat.reduceSub, Nat.reduceLT, Nat.reduceLeDiff, Int.reduceToNat, reduceCtorEq, Int.reduceEq, Int.reduceBEq, Int.reduceLE, Int.reduceLT]; first | (refine k _ _ _ _ _ ?_; clear k K) | (refine k ?_; clear k k' k2 A B C) | (refine k' ?_; clear k k' k2 A B C) | (refine k2 ?_; clear k k' k2 A B C) | (refine k ?_; clear k k' A B) | (refine k' ?_; clear k k' A B)))
    refine W.loopP (fun k : List (List UInt8) => ⟨[(0, depsD l), (5, .ref 1 0)], [(0, .mp (setM k)), (1, .box [.mp 0])], 2, []⟩)
      (fun k => growN l (left l k) k = growN l (left l (insAll [] src)) (insAll [] src)) (left l) (insAll [] src) rfl (Into.le ?_ ?_ (Nat.le_refl _) rfl) fun k hk => W.code (N := 47) [] hN ?_
    · simp only [go_sem, reduceIte, Nat.reduceEqDiff, Nat.reduceAdd, Nat.reduceMul, Nat.reduceSub, Nat.reduceLT, Nat.reduceLeDiff, Int.reduceToNat, reduceCtorEq, Int.reduceEq, Int.reduceBEq, Int.reduceLE, Int.reduceLT]
    · simp only [go_sem, reduceIte, Nat.reduceEqDiff, Nat.reduceAdd, Nat.reduceMul, Nat.reduceSub, Nat.reduceLT, Nat.reduceLeDiff, Int.reduceToNat, reduceCtorEq, Int.reduceEq, Int.reduceBEq, Int.reduceLE, Int.reduceLT, List.take_length]
    repeat (first | refine st_end rfl ?_ | ((first | refine st_op fun K k => ?_ | refine st_op0 fun K k => ?_ | refine st_opT fun K k => ?_ | refine st_grd rfl fun A B C k k' k2 => ?_ | refine st_cond fun A B k k' => ?_); simp only [go_sem, reduceIte, Nat.reduceEqDiff, Nat.reduceAdd, Nat.reduceMul, Nat.reduceSub, Nat.reduceLT, Nat.reduceLeDiff, Int.reduceToNat, reduceCtorEq, Int.reduceEq, Int.reduceBEq, Int.reduceLE, Int.reduceLT]; first | (refine k _ _ _ _ _ ?_; clear k K) | (refine k ?_; clear k k' k2 A B C) | (refine k' ?_; clear k k' k2 A B C) | (refine k2 ?_; clear k k' k2 A B C) | (refine k ?_; clear k k' A B) | (refine k' ?_; clear k k' A B)))
    refine W.loopP (fun j : Nat => ⟨[(0, depsD l), (5, .ref 1 0), (21, depsD l), (22, .v (.int .i64 l.length)), (23, .v (.int .i64 j))], [(0, .mp (setM k)), (1, .box [.mp 0])], 2, []⟩)
      (fun j => j ≤ l.length ∧ ∀ d ∈ l.take j, fires k d = false) (fun j => l.length - j) 0 ⟨by omega, by simp⟩ (Into.le ?_ ?_ (Nat.le_refl _) rfl) fun j hj => W.code (N := 47) [] hN ?_
    · simp only [go_sem, reduceIte, Nat.reduceEqDiff, Nat.reduceAdd, Nat.reduceMul, Nat.reduceSub, Nat.reduceLT, Nat.reduceLeDiff, Int.reduceToNat, reduceCtorEq, Int.reduceEq, Int.reduceBEq, Int.reduceLE, Int.reduceLT]
      exact LeD.refl _
    · simp only [go_sem, reduceIte, Nat.reduceEqDiff, Nat.reduceAdd, Nat.reduceMul, Nat.reduceSub, Nat.reduceLT, Nat.reduceLeDiff, Int.reduceToNat, reduceCtorEq, Int.reduceEq, Int.reduceBEq, Int.reduceLE, Int.reduceLT]
    repeat (first | refine st_end rfl ?_ | ((first | refine st_op fun K k => ?_ | refine st_op0 fun K k => ?_ | refine st_opT fun K k => ?_ | refine st_grd rfl fun A B C k k' k2 => ?_ | refine st_cond fun A B k k' => ?_); simp only [go_sem, reduceIte, Nat.reduceEqDiff, Nat.reduceAdd, Nat.reduceMul, Nat.reduceSub, Nat.reduceLT, Nat.reduceLeDiff, Int.reduceToNat, reduceCtorEq, Int.reduceEq, Int.reduceBEq, Int.reduceLE, Int.reduceLT]; first | (refine k _ _ _ _ _ ?_; clear k K) | (refine k ?_; clear k k' k2 A B C) | (refine k' ?_; clear k k' k2 A B C) | (refine k2 ?_; clear k k' k2 A B C) | (refine k ?_; clear k k' A B) | (refine k' ?_; clear k k' A B)))
    refine st_cond fun A B a b => ?_; simp only [go_sem, reduceIte, Nat.reduceEqDiff, Nat.reduceAdd, Nat.reduceMul, Nat.reduceSub, Nat.reduceLT, Nat.reduceLeDiff, Int.reduceToNat, reduceCtorEq, Int.reduceEq, Int.reduceBEq, Int.reduceLE, Int.reduceLT]; refine ⟨fun g => a ?_, fun g => b ?_⟩ <;> clear a b A B
    · obtain ⟨d, hd⟩ := getS (l := l) (i := j) (by omega)
      repeat (first | refine st_end rfl ?_ | ((first | refine st_op fun K k => ?_ | refine st_op0 fun K k => ?_ | refine st_opT fun K k => ?_ | refine st_grd rfl fun A B C k k' k2 => ?_ | refine st_cond fun A B k k' => ?_); simp only [go_sem, reduceIte, Nat.reduceEqDiff, Nat.reduceAdd, Nat.reduceMul, Nat.reduceSub, Nat.reduceLT, Nat.reduceLeDiff, Int.reduceToNat, reduceCtorEq, Int.reduceEq, Int.reduceBEq, Int.reduceLE, Int.reduceLT, hd, DP.cells]; first | (refine k _ _ _ _ _ ?_; clear k K) | (refine k ?_; clear k k' k2 A B C) | (refine k' ?_; clear k k' k2 A B C) | (refine k2 ?_; clear k k' k2 A B C) | (refine k ?_; clear k k' A B) | (refine k' ?_; clear k k' A B)))
      have hcall : FnOK sys 75 [strsD d.src, .fn (.func 76) [] [.ref 1 0]] [(1, .box [.mp 0]), (0, .mp (setM k))] (.v (.bool (d.src.any fun s => !decide (s ∈ k)))) [(1, .box [.mp 0]), (0, .mp (setM k))] := by
        have h := FnOK.ren (args' := [strsD d.src, .fn (.func 76) [] [.ref 1 0]]) [(1, 0), (0, 1)] (f75_known d.src k) rfl rfl ?_ rfl
        · have e : subS [(1, 0), (0, 1)] [(0, .box [.mp 1]), (1, .mp (setM k))] [(1, 0), (0, 1)] = [(1, .box [.mp 0]), (0, .mp (setM k))] := by
            simp [subS, Abs.look, subO, subL, subD, newOf, setM]
          rw [e] at h
          exact h
        · simp [mapS, subO, subL, subD, newOf, preOf, oldOf, idP, Abs.look, setM]
      refine st_op fun K k' => ?_
      simp only [go_sem, reduceIte, Nat.reduceEqDiff, Nat.reduceAdd, Nat.reduceMul, Nat.reduceSub, Nat.reduceLT, Nat.reduceLeDiff, Int.reduceToNat, reduceCtorEq, Int.reduceEq, Int.reduceBEq, Int.reduceLE, Int.reduceLT]
      refine callK hcall (by simp only [go_sem, reduceIte, Nat.reduceEqDiff, Nat.reduceAdd, Nat.reduceMul, Nat.reduceSub, Nat.reduceLT, Nat.reduceLeDiff, Int.reduceToNat, reduceCtorEq, Int.reduceEq, Int.reduceBEq, Int.reduceLE, Int.reduceLT]) ?_
      simp only [go_sem, reduceIte, Nat.reduceEqDiff, Nat.reduceAdd, Nat.reduceMul, Nat.reduceSub, Nat.reduceLT, Nat.reduceLeDiff, Int.reduceToNat, reduceCtorEq, Int.reduceEq, Int.reduceBEq, Int.reduceLE, Int.reduceLT]
      refine k' _ _ _ _ _ ?_; clear k' K
      have w5 : IntKind.wrap .i64 ((j : Int) + 1) = ((j + 1 : Nat) : Int) := wrapTo (by omega)
      have e5 : l.take (j + 1) = l.take j ++ [d] := by rw [List.take_add_one, hd]; rfl
      have hnext : fires k d = false → ∀ q ∈ l.take (j + 1), fires k q = false := by
        intro h q hq
        rw [e5] at hq
        rcases List.mem_append.1 hq with hq | hq
        · exact hj.2 q hq
        · simp at hq; rw [hq]; exact h
      cases hany : d.src.any fun s => !decide (s ∈ k) with
      | true =>
        repeat (first | refine st_end rfl ?_ | ((first | refine st_op fun K k => ?_ | refine st_op0 fun K k => ?_ | refine st_opT fun K k => ?_ | refine st_grd rfl fun A B C k k' k2 => ?_ | refine st_cond fun A B k k' => ?_); simp only [go_sem, reduceIte, Nat.reduceEqDiff, Nat.reduceAdd, Nat.reduceMul, Nat.reduceSub, Nat.reduceLT, Nat.reduceLeDiff, Int.reduceToNat, reduceCtorEq, Int.reduceEq, Int.reduceBEq, Int.reduceLE, Int.reduceLT, w5]; first | (refine k _ _ _ _ _ ?_; clear k K) | (refine k ?_; clear k k' k2 A B C) | (refine k' ?_; clear k k' k2 A B C) | (refine k2 ?_; clear k k' k2 A B C) | (refine k ?_; clear k k' A B) | (refine k' ?_; clear k k' A B)))
        refine ⟨j + 1, ⟨by omega, hnext ?_⟩, by omega, (Into.ren h0 [(0, 0), (1, 1)] 2 rfl).trans (Into.le ?_ ?_ (Nat.le_refl _) rfl)⟩
        · exact fires_any hany
        · simp only [go_sem, reduceIte, Nat.reduceEqDiff, Nat.reduceAdd, Nat.reduceMul, Nat.reduceSub, Nat.reduceLT, Nat.reduceLeDiff, Int.reduceToNat, reduceCtorEq, Int.reduceEq, Int.reduceBEq, Int.reduceLE, Int.reduceLT, newOf]
        · simp only [go_sem, reduceIte, Nat.reduceEqDiff, Nat.reduceAdd, Nat.reduceMul, Nat.reduceSub, Nat.reduceLT, Nat.reduceLeDiff, Int.reduceToNat, reduceCtorEq, Int.reduceEq, Int.reduceBEq, Int.reduceLE, Int.reduceLT, newOf, setM_sub]
      | false =>
        by_cases hin : d.dst ∈ k
        · repeat (first | refine st_end rfl ?_ | ((first | refine st_op fun K k => ?_ | refine st_op0 fun K k => ?_ | refine st_opT fun K k => ?_ | refine st_grd rfl fun A B C k k' k2 => ?_ | refine st_cond fun A B k k' => ?_); simp only [go_sem, reduceIte, Nat.reduceEqDiff, Nat.reduceAdd, Nat.reduceMul, Nat.reduceSub, Nat.reduceLT, Nat.reduceLeDiff, Int.reduceToNat, reduceCtorEq, Int.reduceEq, Int.reduceBEq, Int.reduceLE, Int.reduceLT, w5, setM_find, hin]; first | (refine k _ _ _ _ _ ?_; clear k K) | (refine k ?_; clear k k' k2 A B C) | (refine k' ?_; clear k k' k2 A B C) | (refine k2 ?_; clear k k' k2 A B C) | (refine k ?_; clear k k' A B) | (refine k' ?_; clear k k' A B)))
          refine st_opT fun K k' => ?_
          simp only [go_sem, reduceIte, Nat.reduceEqDiff, Nat.reduceAdd, Nat.reduceMul, Nat.reduceSub, Nat.reduceLT, Nat.reduceLeDiff, Int.reduceToNat, reduceCtorEq, Int.reduceEq, Int.reduceBEq, Int.reduceLE, Int.reduceLT, setM_find, hin]
          refine ⟨setM_kindP _, k' _ _ _ _ _ ?_⟩; clear k' K
          repeat (first | refine st_end rfl ?_ | ((first | refine st_op fun K k => ?_ | refine st_op0 fun K k => ?_ | refine st_opT fun K k => ?_ | refine st_grd rfl fun A B C k k' k2 => ?_ | refine st_cond fun A B k k' => ?_); simp only [go_sem, reduceIte, Nat.reduceEqDiff, Nat.reduceAdd, Nat.reduceMul, Nat.reduceSub, Nat.reduceLT, Nat.reduceLeDiff, Int.reduceToNat, reduceCtorEq, Int.reduceEq, Int.reduceBEq, Int.reduceLE, Int.reduceLT, w5]; first | (refine k _ _ _ _ _ ?_; clear k K) | (refine k ?_; clear k k' k2 A B C) | (refine k' ?_; clear k k' k2 A B C) | (refine k2 ?_; clear k k' k2 A B C) | (refine k ?_; clear k k' A B) | (refine k' ?_; clear k k' A B)))
          refine ⟨j + 1, ⟨by omega, hnext (by rw [fires_all hany]; simp [hin])⟩, by omega, (Into.ren h0 [(0, 0), (1, 1)] 2 rfl).trans (Into.le ?_ ?_ (Nat.le_refl _) rfl)⟩
          · simp only [go_sem, reduceIte, Nat.reduceEqDiff, Nat.reduceAdd, Nat.reduceMul, Nat.reduceSub, Nat.reduceLT, Nat.reduceLeDiff, Int.reduceToNat, reduceCtorEq, Int.reduceEq, Int.reduceBEq, Int.reduceLE, Int.reduceLT, newOf]
          · simp only [go_sem, reduceIte, Nat.reduceEqDiff, Nat.reduceAdd, Nat.reduceMul, Nat.reduceSub, Nat.reduceLT, Nat.reduceLeDiff, Int.reduceToNat, reduceCtorEq, Int.reduceEq, Int.reduceBEq, Int.reduceLE, Int.reduceLT, newOf, setM_sub]
        · repeat (first | refine st_end rfl ?_ | ((first | refine st_op fun K k => ?_ | refine st_op0 fun K k => ?_ | refine st_opT fun K k => ?_ | refine st_grd rfl fun A B C k k' k2 => ?_ | refine st_cond fun A B k k' => ?_); simp only [go_sem, reduceIte, Nat.reduceEqDiff, Nat.reduceAdd, Nat.reduceMul, Nat.reduceSub, Nat.reduceLT, Nat.reduceLeDiff, Int.reduceToNat, reduceCtorEq, Int.reduceEq, Int.reduceBEq, Int.reduceLE, Int.reduceLT, w5, setM_find, hin]; first | (refine k _ _ _ _ _ ?_; clear k K) | (refine k ?_; clear k k' k2 A B C) | (refine k' ?_; clear k k' k2 A B C) | (refine k2 ?_; clear k k' k2 A B C) | (refine k ?_; clear k k' A B) | (refine k' ?_; clear k k' A B)))
          refine st_opT fun K k' => ?_
          simp only [go_sem, reduceIte, Nat.reduceEqDiff, Nat.reduceAdd, Nat.reduceMul, Nat.reduceSub, Nat.reduceLT, Nat.reduceLeDiff, Int.reduceToNat, reduceCtorEq, Int.reduceEq, Int.reduceBEq, Int.reduceLE, Int.reduceLT, setM_find, hin]
          refine ⟨setM_kindP _, k' _ _ _ _ _ ?_⟩; clear k' K
          repeat (first | refine st_end rfl ?_ | ((first | refine st_op fun K k => ?_ | refine st_op0 fun K k => ?_ | refine st_opT fun K k => ?_ | refine st_grd rfl fun A B C k k' k2 => ?_ | refine st_cond fun A B k k' => ?_); simp only [go_sem, reduceIte, Nat.reduceEqDiff, Nat.reduceAdd, Nat.reduceMul, Nat.reduceSub, Nat.reduceLT, Nat.reduceLeDiff, Int.reduceToNat, reduceCtorEq, Int.reduceEq, Int.reduceBEq, Int.reduceLE, Int.reduceLT, w5]; first | (refine k _ _ _ _ _ ?_; clear k K) | (refine k ?_; clear k k' k2 A B C) | (refine k' ?_; clear k k' k2 A B C) | (refine k2 ?_; clear k k' k2 A B C) | (refine k ?_; clear k k' A B) | (refine k' ?_; clear k k' A B)))
          refine st_op0 fun K k' => ?_
          simp only [go_sem, reduceIte, Nat.reduceEqDiff, Nat.reduceAdd, Nat.reduceMul, Nat.reduceSub, Nat.reduceLT, Nat.reduceLeDiff, Int.reduceToNat, reduceCtorEq, Int.reduceEq, Int.reduceBEq, Int.reduceLE, Int.reduceLT]
          refine ⟨setM_kindP _, ?_⟩
          rw [putM_set]
          refine k' _ _ _ _ _ ?_; clear k' K
          have hins : ins k d.dst = k ++ [d.dst] := by simp [ins, hin]
          have hgr : grow1 l k = some d.dst := by
            have h1 : l.find? (fires k) = some d := by
              rw [← List.take_append_drop j l, List.find?_append, drop_at hd]
              have h2 : (l.take j).find? (fires k) = none := by
                rw [List.find?_eq_none]
                intro q hq
                rw [hj.2 q hq]; simp
              have h3 : fires k d = true := by rw [fires_all hany]; simp [hin]
              rw [h2, List.find?_cons, h3]
              rfl
            simp [grow1, h1]
          have hlt := left_lt hgr
          have hgo : growN l (left l (k ++ [d.dst])) (k ++ [d.dst]) = growN l (left l k) k := by
            obtain ⟨m, hm⟩ : ∃ m, left l k = m + 1 := ⟨left l k - 1, by omega⟩
            rw [hm]
            simp only [growN, hgr]
            rw [growN_fuel m _ (by omega)]
          refine st_end rfl ?_
          refine iq Into.refl ?_
          refine ⟨k ++ [d.dst], hgo.trans hk, hlt, (Into.ren h0 [(0, 0), (1, 1)] 2 rfl).trans (Into.le ?_ ?_ (Nat.le_refl _) rfl)⟩
          · simp only [go_sem, reduceIte, Nat.reduceEqDiff, Nat.reduceAdd, Nat.reduceMul, Nat.reduceSub, Nat.reduceLT, Nat.reduceLeDiff, Int.reduceToNat, reduceCtorEq, Int.reduceEq, Int.reduceBEq, Int.reduceLE, Int.reduceLT, newOf]
          · simp only [go_sem, reduceIte, Nat.reduceEqDiff, Nat.reduceAdd, Nat.reduceMul, Nat.reduceSub, Nat.reduceLT, Nat.reduceLeDiff, Int.reduceToNat, reduceCtorEq, Int.reduceEq, Int.reduceBEq, Int.reduceLE, Int.reduceLT, newOf, setM_sub, hins]
    · obtain rfl : j = l.length := by omega
      have hno : grow1 l k = none := by
        have : l.find? (fires k) = none := by
          rw [List.find?_eq_none]
          intro q hq
          rw [hj.2 q (by simpa using hq)]
          simp
        simp [grow1, this]
      have hkc : k = closL l src := by
        have : growN l (left l k) k = k := by
          cases left l k with
          | zero => rfl
          | succ m => simp [growN, hno]
        rw [this] at hk
        exact hk
      obtain ⟨c1, c2, c3⟩ := closL_ok l src (fun s => s.length ≤ 16777216) hs hd
      rw [← hkc] at c1 c2 c3
      refine iq Into.refl ?_
      repeat (first | refine st_end rfl ?_ | ((first | refine st_op fun K k => ?_ | refine st_op0 fun K k => ?_ | refine st_opT fun K k => ?_ | refine st_grd rfl fun A B C k k' k2 => ?_ | refine st_cond fun A B k k' => ?_); simp only [go_sem, reduceIte, Nat.reduceEqDiff, Nat.reduceAdd, Nat.reduceMul, Nat.reduceSub, Nat.reduceLT, Nat.reduceLeDiff, Int.reduceToNat, reduceCtorEq, Int.reduceEq, Int.reduceBEq, Int.reduceLE, Int.reduceLT]; first | (refine k _ _ _ _ _ ?_; clear k K) | (refine k ?_; clear k k' k2 A B C) | (refine k' ?_; clear k k' k2 A B C) | (refine k2 ?_; clear k k' k2 A B C) | (refine k ?_; clear k k' A B) | (refine k' ?_; clear k k' A B)))
      refine iq Into.refl ?_
      repeat (first | refine st_end rfl ?_ | ((first | refine st_op fun K k => ?_ | refine st_op0 fun K k => ?_ | refine st_opT fun K k => ?_ | refine st_grd rfl fun A B C k k' k2 => ?_ | refine st_cond fun A B k k' => ?_); simp only [go_sem, reduceIte, Nat.reduceEqDiff, Nat.reduceAdd, Nat.reduceMul, Nat.reduceSub, Nat.reduceLT, Nat.reduceLeDiff, Int.reduceToNat, reduceCtorEq, Int.reduceEq, Int.reduceBEq, Int.reduceLE, Int.reduceLT]; first | (refine k _ _ _ _ _ ?_; clear k K) | (refine k ?_; clear k k' k2 A B C) | (refine k' ?_; clear k k' k2 A B C) | (refine k2 ?_; clear k k' k2 A B C) | (refine k ?_; clear k k' A B) | (refine k' ?_; clear k k' A B)))
      refine st_op fun K k' => ?_
      simp only [go_sem, reduceIte, Nat.reduceEqDiff, Nat.reduceAdd, Nat.reduceMul, Nat.reduceSub, Nat.reduceLT, Nat.reduceLeDiff, Int.reduceToNat, reduceCtorEq, Int.reduceEq, Int.reduceBEq, Int.reduceLE, Int.reduceLT]
      refine callT (f78_at k) 3 (by simp only [go_sem, reduceIte, Nat.reduceEqDiff, Nat.reduceAdd, Nat.reduceMul, Nat.reduceSub, Nat.reduceLT, Nat.reduceLeDiff, Int.reduceToNat, reduceCtorEq, Int.reduceEq, Int.reduceBEq, Int.reduceLE, Int.reduceLT]) (by omega) (by simp only [go_sem, reduceIte, Nat.reduceEqDiff, Nat.reduceAdd, Nat.reduceMul, Nat.reduceSub, Nat.reduceLT, Nat.reduceLeDiff, Int.reduceToNat, reduceCtorEq, Int.reduceEq, Int.reduceBEq, Int.reduceLE, Int.reduceLT]) ?_
      simp only [go_sem, reduceIte, Nat.reduceEqDiff, Nat.reduceAdd, Nat.reduceMul, Nat.reduceSub, Nat.reduceLT, Nat.reduceLeDiff, Int.reduceToNat, reduceCtorEq, Int.reduceEq, Int.reduceBEq, Int.reduceLE, Int.reduceLT]
      refine k' _ _ _ _ _ ?_; clear k' K
      refine st_op fun K k' => ?_
      simp only [go_sem, reduceIte, Nat.reduceEqDiff, Nat.reduceAdd, Nat.reduceMul, Nat.reduceSub, Nat.reduceLT, Nat.reduceLeDiff, Int.reduceToNat, reduceCtorEq, Int.reduceEq, Int.reduceBEq, Int.reduceLE, Int.reduceLT]
      refine callT (f77_at 2 0 3 (by omega) (by omega) (by omega) k c1 c2 (by omega)) 4 (by simp only [go_sem, reduceIte, Nat.reduceEqDiff, Nat.reduceAdd, Nat.reduceMul, Nat.reduceSub, Nat.reduceLT, Nat.reduceLeDiff, Int.reduceToNat, reduceCtorEq, Int.reduceEq, Int.reduceBEq, Int.reduceLE, Int.reduceLT]) (by omega) (by simp only [go_sem, reduceIte, Nat.reduceEqDiff, Nat.reduceAdd, Nat.reduceMul, Nat.reduceSub, Nat.reduceLT, Nat.reduceLeDiff, Int.reduceToNat, reduceCtorEq, Int.reduceEq, Int.reduceBEq, Int.reduceLE, Int.reduceLT]) ?_
      simp only [go_sem, reduceIte, Nat.reduceEqDiff, Nat.reduceAdd, Nat.reduceMul, Nat.reduceSub, Nat.reduceLT, Nat.reduceLeDiff, Int.reduceToNat, reduceCtorEq, Int.reduceEq, Int.reduceBEq, Int.reduceLE, Int.reduceLT]
      refine k' _ _ _ _ _ ?_; clear k' K
      repeat (first | refine st_end rfl ?_ | ((first | refine st_op fun K k => ?_ | refine st_op0 fun K k => ?_ | refine st_opT fun K k => ?_ | refine st_grd rfl fun A B C k k' k2 => ?_ | refine st_cond fun A B k k' => ?_); simp only [go_sem, reduceIte, Nat.reduceEqDiff, Nat.reduceAdd, Nat.reduceMul, Nat.reduceSub, Nat.reduceLT, Nat.reduceLeDiff, Int.reduceToNat, reduceCtorEq, Int.reduceEq, Int.reduceBEq, Int.reduceLE, Int.reduceLT]; first | (refine k _ _ _ _ _ ?_; clear k K) | (refine k ?_; clear k k' k2 A B C) | (refine k' ?_; clear k k' k2 A B C) | (refine k2 ?_; clear k k' k2 A B C) | (refine k ?_; clear k k' A B) | (refine k' ?_; clear k k' A B)))
      refine Done.mk (.inr rfl) (Into.frz [3] ?_) ?_ [] 0 ?_ ?_ ?_ ?_
      · simp only [go_sem, reduceIte, Nat.reduceEqDiff, Nat.reduceAdd, Nat.reduceMul, Nat.reduceSub, Nat.reduceLT, Nat.reduceLeDiff, Int.reduceToNat, reduceCtorEq, Int.reduceEq, Int.reduceBEq, Int.reduceLE, Int.reduceLT]
        intro e he; obtain ⟨q, _, rfl⟩ := List.mem_map.1 he; rfl
      · rfl
      · rfl
      · simp only [go_sem, reduceIte, Nat.reduceEqDiff, Nat.reduceAdd, Nat.reduceMul, Nat.reduceSub, Nat.reduceLT, Nat.reduceLeDiff, Int.reduceToNat, reduceCtorEq, Int.reduceEq, Int.reduceBEq, Int.reduceLE, Int.reduceLT, sortS_length, hkc]
      · trivial
      · rfl
end Go.Proofs.YtjgooecohepkoaaGreatDoor
