/- Contracts of the functions that the statement reaches. -/
import Derived.Shelf.SlIter.Nil
import Derived.Shelf.SortM.Plain
import Derived.Shelf.SortM.SortNone
import Derived.Ground.GgzProg
import Derived.Ground.SlgmProg
import Derived.Test.YtjgooecohepkoaaGreatDoorProg
import Derived.Test.YtjgooecohepkoaaGreatDoorSAF
import Derived.Test.YtjgooecohepkoaaGreatDoorSAE
import Derived.Test.YtjgooecohepkoaaGreatDoorEAO
import Derived.Test.YtjgooecohepkoaaGreatDoorSAL
set_option linter.unusedVariables false
set_option linter.unusedSimpArgs false
/-
  DERIVED: THE SHELF's CONTRACTS AT THIS DUMP, IN PLAIN WORDS (tools/lay-plain.mjs out of 'SortIter.lean', which tools/lay-shelf.mjs wrote): THE SAME DECLARATIONS UNDER THE SAME NAMES: 'import', 'namespace', 'open', 'def', 'theorem' AND NOTHING ELSE: no command of the shelf's: FOR A HAND-IN. Each laying: the table of numbers ('.._ren') and one theorem, a field a fact of the dump's own or the kernel's comparison; each contract: ONE APPLICATION.
-/
namespace Go.Proofs
open Go.Shelf
def Tryz.keys78_ren : Go.Shelf.Ren := ⟨fun | 7 => 78 | 10 => 124 | n => n, fun | 23 => 56 | 26 => 9 | 3 => 4 | 28 => 105 | 0 => 0 | 27 => 104 | 33 => 93 | 4 => 4 | n => n, fun | n => n⟩
theorem Tryz.keys78 : Go.Proofs.SlLaysZ.n7 Tryz.prog Tryz.keys78_ren := {
  mixed := by kernel_rfl
  f7 := ⟨Tryz.f78.name, by decide, Tryz.func78.trans (congrArg some (by kernel_rfl))⟩
  f10 := ⟨Tryz.f124.name, by decide, Tryz.func124.trans (congrArg some (by kernel_rfl))⟩
  t0 := Tryz.underlying0
  a0 := Tryz.isAgg0
  z0 := Tryz.sizeOf0
  v0 := Tryz.zeroValue0
  t4 := Tryz.underlying4
  a4 := Tryz.isAgg4
  z4 := Tryz.sizeOf4
  v4 := Tryz.zeroValue4
  t23 := Tryz.underlying56
  a23 := Tryz.isAgg56
  z23 := Tryz.sizeOf56
  v23 := Tryz.zeroValue56
  t26 := Tryz.underlying9
  a26 := Tryz.isAgg9
  z26 := Tryz.sizeOf9
  v26 := Tryz.zeroValue9
  t27 := Tryz.underlying104
  a27 := Tryz.isAgg104
  z27 := Tryz.sizeOf104
  v27 := Tryz.zeroValue104
  t28 := Tryz.underlying105
  a28 := Tryz.isAgg105
  z28 := Tryz.sizeOf105
  v28 := Tryz.zeroValue105
  t33 := Tryz.underlying93
  a33 := Tryz.isAgg93
  z33 := Tryz.sizeOf93
  v33 := Tryz.zeroValue93 }
def Tryz.sorted77_ren : Go.Shelf.Ren := ⟨fun | 6 => 77 | 8 => 122 | 9 => 123 | 11 => 178 | 13 => 180 | 12 => 179 | 23 => 225 | 24 => 226 | 14 => 216 | 15 => 217 | 16 => 218 | 17 => 219 | 18 => 220 | 19 => 221 | 20 => 222 | 21 => 223 | 22 => 224 | 25 => 244 | 26 => 245 | 27 => 246 | 28 => 247 | 29 => 248 | 30 => 127 | 31 => 269 | n => n, fun | 26 => 9 | 28 => 105 | 24 => 25 | 0 => 0 | 3 => 3 | 37 => 197 | 48 => 236 | 50 => 135 | 4 => 4 | 40 => 229 | 39 => 228 | 45 => 109 | 5 => 5 | 9 => 9 | 51 => 253 | 55 => 257 | 57 => 271 | 58 => 272 | 33 => 93 | n => n, fun | n => n⟩
theorem Tryz.sorted77 : Go.Proofs.SlLaysZ.n6 Tryz.prog Tryz.sorted77_ren := {
  mixed := by kernel_rfl
  f6 := ⟨Tryz.f77.name, by decide, Tryz.func77.trans (congrArg some (by kernel_rfl))⟩
  f8 := ⟨Tryz.f122.name, by decide, Tryz.func122.trans (congrArg some (by kernel_rfl))⟩
  f11 := ⟨Tryz.f178.name, by decide, Tryz.func178.trans (congrArg some (by kernel_rfl))⟩
  t0 := Tryz.underlying0
  a0 := Tryz.isAgg0
  z0 := Tryz.sizeOf0
  v0 := Tryz.zeroValue0
  t24 := Tryz.underlying25
  a24 := Tryz.isAgg25
  z24 := Tryz.sizeOf25
  v24 := Tryz.zeroValue25
  t26 := Tryz.underlying9
  a26 := Tryz.isAgg9
  z26 := Tryz.sizeOf9
  v26 := Tryz.zeroValue9
  t28 := Tryz.underlying105
  a28 := Tryz.isAgg105
  z28 := Tryz.sizeOf105
  v28 := Tryz.zeroValue105
  i26 := by kernel_rfl }
def Tryz.sort123_ren : Go.Shelf.Ren := ⟨fun | 6 => 123 | 8 => 180 | 9 => 179 | 19 => 225 | 20 => 226 | 21 => 216 | 22 => 217 | 23 => 218 | 24 => 219 | 25 => 220 | 26 => 221 | 27 => 222 | 28 => 223 | 29 => 224 | 36 => 244 | 31 => 245 | 32 => 246 | 37 => 247 | 38 => 248 | 39 => 127 | 41 => 269 | n => n, fun | 27 => 25 | 29 => 9 | 3 => 3 | 32 => 197 | 26 => 25 | 0 => 0 | 44 => 236 | 46 => 135 | 4 => 4 | 36 => 229 | 35 => 228 | 41 => 109 | 5 => 5 | 9 => 9 | 53 => 253 | 57 => 257 | 63 => 271 | 64 => 272 | n => n, fun | n => n⟩
theorem Tryz.sort123 : Go.Proofs.SlLaysM.n6 Tryz.prog Tryz.sort123_ren := {
  mixed := by kernel_rfl
  f6 := ⟨Tryz.f123.name, by decide, Tryz.func123.trans (congrArg some (by kernel_rfl))⟩
  f8 := Tryz.func180.trans (congrArg some (by kernel_rfl))
  f9 := ⟨Tryz.f179.name, by decide, Tryz.func179.trans (congrArg some (by kernel_rfl))⟩
  f19 := Tryz.func225.trans (congrArg some (by kernel_rfl))
  f20 := Tryz.func226.trans (congrArg some (by kernel_rfl))
  f21 := ⟨Tryz.f216.name, by decide, Tryz.func216.trans (congrArg some (by kernel_rfl))⟩
  f22 := ⟨Tryz.f217.name, by decide, Tryz.func217.trans (congrArg some (by kernel_rfl))⟩
  f23 := ⟨Tryz.f218.name, by decide, Tryz.func218.trans (congrArg some (by kernel_rfl))⟩
  f24 := ⟨Tryz.f219.name, by decide, Tryz.func219.trans (congrArg some (by kernel_rfl))⟩
  f25 := ⟨Tryz.f220.name, by decide, Tryz.func220.trans (congrArg some (by kernel_rfl))⟩
  f26 := ⟨Tryz.f221.name, by decide, Tryz.func221.trans (congrArg some (by kernel_rfl))⟩
  f27 := ⟨Tryz.f222.name, by decide, Tryz.func222.trans (congrArg some (by kernel_rfl))⟩
  f28 := ⟨Tryz.f223.name, by decide, Tryz.func223.trans (congrArg some (by kernel_rfl))⟩
  f29 := ⟨Tryz.f224.name, by decide, Tryz.func224.trans (congrArg some (by kernel_rfl))⟩
  f31 := Tryz.func245.trans (congrArg some (by kernel_rfl))
  f32 := Tryz.func246.trans (congrArg some (by kernel_rfl))
  f36 := ⟨Tryz.f244.name, by decide, Tryz.func244.trans (congrArg some (by kernel_rfl))⟩
  f37 := ⟨Tryz.f247.name, by decide, Tryz.func247.trans (congrArg some (by kernel_rfl))⟩
  f38 := ⟨Tryz.f248.name, by decide, Tryz.func248.trans (congrArg some (by kernel_rfl))⟩
  f39 := ⟨Tryz.f127.name, by decide, Tryz.func127.trans (congrArg some (by kernel_rfl))⟩
  f41 := ⟨Tryz.f269.name, by decide, Tryz.func269.trans (congrArg some (by kernel_rfl))⟩
  t0 := Tryz.underlying0
  a0 := Tryz.isAgg0
  z0 := Tryz.sizeOf0
  v0 := Tryz.zeroValue0
  t3 := Tryz.underlying3
  a3 := Tryz.isAgg3
  z3 := Tryz.sizeOf3
  v3 := Tryz.zeroValue3
  t4 := Tryz.underlying4
  a4 := Tryz.isAgg4
  z4 := Tryz.sizeOf4
  v4 := Tryz.zeroValue4
  t5 := Tryz.underlying5
  a5 := Tryz.isAgg5
  z5 := Tryz.sizeOf5
  v5 := Tryz.zeroValue5
  t9 := Tryz.underlying9
  a9 := Tryz.isAgg9
  z9 := Tryz.sizeOf9
  v9 := Tryz.zeroValue9
  t26 := Tryz.underlying25
  a26 := Tryz.isAgg25
  z26 := Tryz.sizeOf25
  v26 := Tryz.zeroValue25
  t27 := Tryz.underlying25
  a27 := Tryz.isAgg25
  z27 := Tryz.sizeOf25
  v27 := Tryz.zeroValue25
  t29 := Tryz.underlying9
  a29 := Tryz.isAgg9
  z29 := Tryz.sizeOf9
  v29 := Tryz.zeroValue9
  t32 := Tryz.underlying197
  a32 := Tryz.isAgg197
  z32 := Tryz.sizeOf197
  v32 := Tryz.zeroValue197
  t35 := Tryz.underlying228
  a35 := Tryz.isAgg228
  z35 := Tryz.sizeOf228
  v35 := Tryz.zeroValue228
  t36 := Tryz.underlying229
  a36 := Tryz.isAgg229
  z36 := Tryz.sizeOf229
  v36 := Tryz.zeroValue229
  t41 := Tryz.underlying109
  a41 := Tryz.isAgg109
  z41 := Tryz.sizeOf109
  v41 := Tryz.zeroValue109
  t44 := Tryz.underlying236
  a44 := Tryz.isAgg236
  z44 := Tryz.sizeOf236
  v44 := Tryz.zeroValue236
  t46 := Tryz.underlying135
  a46 := Tryz.isAgg135
  z46 := Tryz.sizeOf135
  v46 := Tryz.zeroValue135
  t53 := Tryz.underlying253
  a53 := Tryz.isAgg253
  z53 := Tryz.sizeOf253
  v53 := Tryz.zeroValue253
  t57 := Tryz.underlying257
  a57 := Tryz.isAgg257
  z57 := Tryz.sizeOf257
  v57 := Tryz.zeroValue257
  t63 := Tryz.underlying271
  a63 := Tryz.isAgg271
  z63 := Tryz.sizeOf271
  v63 := Tryz.zeroValue271
  t64 := Tryz.underlying272
  a64 := Tryz.isAgg272
  z64 := Tryz.sizeOf272
  v64 := Tryz.zeroValue272 }
end Go.Proofs
namespace Go.Proofs.YtjgooecohepkoaaGreatDoor
open Go Go.Abs
set_option linter.unusedSimpArgs false
set_option maxHeartbeats 2000000
theorem f78_ok (es : List (Value × D)) (hes : es.map (fun x => (x.1, subD (idP [(0, .mp es)]) x.2)) = es) (hes2 : es.map (fun x => (x.1, subD (newOf [(0, 0), (1, 1)]) x.2)) = es) :
    FnOK sys 78 [.mp 0] [(0, .mp es)] (.fn (.func 124) [] [.ref 1 0]) [(0, .mp es), (1, .box [.mp 0])] := by
  refine FnOK.intro Tryz.f78 (by kernel_rfl) rfl rfl [.tmp 2] rfl 1 rfl (Nat.le_of_ble_eq_true rfl) rfl ?_ fun E hN h0 => W.code (N := 4) [] hN ?_
  · simp only [mapS, List.map_cons, List.map_nil, subO, hes]
  repeat (first | refine st_end rfl ?_ | ((first | refine st1 fun K k => ?_ | refine st2 fun K k => ?_ | refine st3 rfl fun K k => ?_ | refine st4 fun K k => ?_); simp only [go_sem]; refine k _ _ _ _ _ _ ?_; clear k K))
  refine Done.mk (.inr rfl) Into.refl ?_ [(0, 0), (1, 1)] 2 ?_ ?_ ?_ ?_
  · rfl
  · rfl
  · simp only [go_sem]
  · simp only [go_sem]
    simpa [newOf] using hes2
  · rfl
theorem f76_ok (x : List UInt8) (es : List (List UInt8)) : FnOK sys 76 [.s x, .ep [.fmp (es.map fun s => .string ⟨⟨s⟩⟩) (es.map fun _ => .v (.bool true))]] [] (.v (.bool (!decide (x ∈ es)))) [] := by
  refine FnOK.intro Tryz.f76 (by kernel_rfl) rfl rfl [.tmp 3] rfl 0 rfl (Nat.le_of_ble_eq_true rfl) rfl rfl fun E hN h0 => W.code (N := 8) [] hN ?_
  have hk := setM_kind es
  unfold keyKind at hk
  by_cases hx : x ∈ es
  · repeat (first | refine st_end rfl ?_ | ((first | refine st1 fun K k => ?_ | refine st2 fun K k => ?_ | refine st3 rfl fun K k => ?_ | refine st4 fun K k => ?_); simp only [go_sem, setM_zip, setM_find, hx]; refine k _ _ _ _ _ _ ?_; clear k K))
    refine st_op fun K k => ?_
    simp only [go_sem, setM_zip, setM_find, hx]
    refine ⟨hk, k _ _ _ _ _ ?_⟩; clear k K
    repeat (first | refine st_end rfl ?_ | ((first | refine st1 fun K k => ?_ | refine st2 fun K k => ?_ | refine st3 rfl fun K k => ?_ | refine st4 fun K k => ?_); simp only [go_sem]; refine k _ _ _ _ _ _ ?_; clear k K))
    refine Done.mk (.inr rfl) Into.refl ?_ [] 0 ?_ ?_ ?_ ?_
    · rfl
    · rfl
    · simp only [go_sem, hx, decide_true]
    · trivial
    · rfl
  · repeat (first | refine st_end rfl ?_ | ((first | refine st1 fun K k => ?_ | refine st2 fun K k => ?_ | refine st3 rfl fun K k => ?_ | refine st4 fun K k => ?_); simp only [go_sem, setM_zip, setM_find, hx]; refine k _ _ _ _ _ _ ?_; clear k K))
    refine st_op fun K k => ?_
    simp only [go_sem, setM_zip, setM_find, hx]
    refine ⟨hk, k _ _ _ _ _ ?_⟩; clear k K
    repeat (first | refine st_end rfl ?_ | ((first | refine st1 fun K k => ?_ | refine st2 fun K k => ?_ | refine st3 rfl fun K k => ?_ | refine st4 fun K k => ?_); simp only [go_sem]; refine k _ _ _ _ _ _ ?_; clear k K))
    refine Done.mk (.inr rfl) Into.refl ?_ [] 0 ?_ ?_ ?_ ?_
    · rfl
    · rfl
    · simp only [go_sem, hx, decide_false]
    · trivial
    · rfl
end Go.Proofs.YtjgooecohepkoaaGreatDoor
namespace Go.Proofs.YtjgooecohepkoaaGreatDoor
open Go Go.Abs Go.RowKit Go.Maps Go.Sort Go.Shelf
/-- slices.Sorted over maps.Keys of a set of texts: the texts in order, as a new slice. -/
theorem f77_keys (L : List (List UInt8)) (hn : L.Nodup) (hl : ∀ s ∈ L, s.length ≤ 16777216) (hlen : L.length ≤ 16777216) :
    FnOK sys 77 [.fn (.func 124) [] [.ref 1 0]] [(0, .mp (setM L)), (1, .box [.mp 0])] (.own 2 L.length) [(2, .row 9 1 ((sortS L).map fun s => [.s s])), (0, .mp (setM L)), (1, .box [.mp 0])] := by
  refine ⟨⟨Tryz.f77, by kernel_rfl, rfl, rfl⟩, fun E w g vs hr hvs hs hf => ?_⟩
  have hmx : ∀ n, n ≤ 16777216 → n ≤ maxLen := fun n h => le_max h
  obtain ⟨v, r, rfl, hv, hr0⟩ := RepL.cons_iff.1 hvs
  have hr1 := RepL.nil_iff.1 hr0
  subst hr1
  simp only [Rep] at hv
  obtain ⟨v1, v2, rfl, q1, q2⟩ := hv
  have q1' := RepL.nil_iff.1 q1
  subst q1'
  obtain ⟨p, r, rfl, hp, hr0⟩ := RepL.cons_iff.1 q2
  have hr1 := RepL.nil_iff.1 hr0
  subst hr1
  simp only [Rep] at hp
  obtain ⟨bx, cx, hφ1, rfl⟩ := hp
  obtain ⟨⟨p1, p2⟩, hq1, ⟨b1, arr1, t1, e1, hh1, hl1⟩, _⟩ := hs.obj 1 (.box [.mp 0]) (by simp [Abs.look])
  rw [hφ1] at hq1
  cases hq1
  simp only [Option.some.injEq] at e1
  subst e1
  obtain ⟨x, r, ea, hx, hr0⟩ := RepL.cons_iff.1 hl1
  have hr1 := RepL.nil_iff.1 hr0
  subst hr1
  simp only [Rep] at hx
  obtain ⟨b, c, hφ0, rfl⟩ := hx
  obtain ⟨⟨p1, p2⟩, hq0, ⟨b0, arr, clock, e0, hh0, hk0, hv0, hb1, hb2⟩, _⟩ := hs.obj 0 (.mp (setM L)) (by simp [Abs.look])
  rw [hφ0] at hq0
  cases hq0
  simp only [Option.some.injEq] at e0
  subst e0
  have harr1 : arr1 = #[.map (some b)] := by apply Array.toList_inj.1; rw [ea]
  have hcell : w.cell? ⟨bx, 0, none⟩ = some (.map (some b)) := by
    rw [cell_of_row w bx 0 arr1 t1 (0, 0) hh1, harr1]; rfl
  have hbx : bx < w.heap.size := hr.wf.flt 1 bx cx hφ1
  have hkeys : arr.toList.map (·.key) = L.map fun s => Value.string ⟨⟨s⟩⟩ := by rw [hk0]; simp [setM]
  obtain ⟨D0, hown, hperm, hsize⟩ := keys_map (P := Tryz.prog) (k := 9) Tryz.underlying9 hh0 hkeys hb1 hb2 hn (fun s hs => hmx _ (hl s hs)) (hmx _ hlen)
  have hseq : SeqGives Fence.wide 2 Tryz.prog 124 #[.pointer (some ⟨bx, 0, none⟩)] encStr (fun ss => ss.Perm (strKeys D0)) (Maps.size D0) w :=
    AnyZ.keys_gives (ρ := Tryz.keys78_ren) { Tryz.keys78 with } Fence.wide _ trivial rfl (by omega) bx b L.length D0 w hbx hcell hown
  have hsorts : AnyZ.SortsIn Tryz.prog Tryz.sorted77_ren Fence.wide 4 :=
    ⟨fun blk off cap ss W hH hblk hsz => callsIn_wide.2 (AnyM.slices_Sort_string Tryz.sort123 blk off cap ss W hH hblk hsz),
     fun p cap W => callsIn_wide.2 (AnyM.slices_Sort_string_none Tryz.sort123 p cap W)⟩
  have hcall := AnyZ.sorted_in Tryz.sorted77 Fence.wide 5 trivial trivial trivial trivial rfl (by omega) hsorts (enters_of Tryz.func123 (by kernel_rfl) rfl) 124 #[.pointer (some ⟨bx, 0, none⟩)] trivial (enters_of Tryz.func124 (by kernel_rfl) rfl) _ _ (by rw [hsize]; exact hmx _ hlen) (by rw [hsize]; omega) w hseq
  refine (callsIn_env E hcall).mono ?_
  rintro e w' ⟨v, ss, rfl, hS, hrow, _, hbl⟩
  have hss : ss.Perm L := hS.trans hperm
  have hsl : ss.length = L.length := hss.length_eq
  have hφ2 : g.φ 2 = none := hf 2 (by simp [Abs.look]) (by simp [Abs.look])
  have hso : ss.mergeSort (fun x y => decide (x ≤ y)) = sortS L := sortS_of_perm hss
  rw [hso, hsl] at hrow
  obtain ⟨g', hm, hrep⟩ := move_below (nx := 2) (es := (sortS L).map fun s => [.s s]) hr hφ2 hbl hrow (by simp [sortS_length]) (by simp) (by
    clear hrow
    induction sortS L with
    | nil => simp [RepL]
    | cons x r ih => simp only [List.map_cons, List.flatten_cons, List.singleton_append, RepL, Rep]; exact ⟨trivial, ih⟩)
  have m1 := Move.frame hr 0 (.mp (setM L)) (pre := []) (hs.sub fun l o h => by
    simp only [List.nil_append, Abs.look] at h ⊢
    split at h
    · rename_i e; rw [if_pos e]; exact h
    · cases h) (by simp [Abs.look]) (by simp [Abs.look]) hm (fun l h1 h2 => by
      simp only [Abs.look] at h2
      split at h2
      · rename_i e; subst e; exact hφ2
      · exact absurd rfl h2)
  have m2 := Move.frame hr 1 (.box [.mp 0]) (pre := [(0, .mp (setM L))]) hs (by simp [Abs.look]) (by simp [Abs.look]) m1 (fun l h1 h2 => by
      simp only [Abs.look, List.singleton_append, List.cons_append, List.nil_append] at h1 h2
      split at h2
      · rename_i e; subst e; exact hφ2
      · exact absurd h1 h2)
  exact ⟨v, g', rfl, m2, hrep⟩
end Go.Proofs.YtjgooecohepkoaaGreatDoor
set_option linter.unusedSimpArgs false
namespace Go.Proofs.YtjgooecohepkoaaGreatDoor
open Go Go.Abs
theorem keysS_setM : ∀ {es : List (Value × D)} {L : List (List UInt8)}, keysS es = some L → es = setM L
  | [], L, h => by simp only [keysS, Option.some.injEq] at h; subst h; rfl
  | e :: r, L, h => by
    unfold keysS at h
    split at h
    · rename_i he; cases he
    · rename_i s r' he
      simp only [Option.map_eq_some_iff] at h
      obtain ⟨L', h1, rfl⟩ := h
      have := keysS_setM h1
      cases he
      rw [this]
      simp [setM]
    · cases h
theorem f77_at (r m nx : Nat) (hrm : r ≠ m) (hr : r ≠ nx) (hm : m ≠ nx) (L : List (List UInt8)) (hn : L.Nodup) (hl : ∀ s ∈ L, s.length ≤ 16777216) (hlen : L.length ≤ 16777216) :
    FnOK sys 77 [.fn (.func 124) [] [.ref r 0]] [(m, .mp (setM L)), (r, .box [.mp m])] (.own nx L.length) [(nx, .row 9 1 ((sortS L).map fun s => [.s s])), (m, .mp (setM L)), (r, .box [.mp m])] := by
  have hset : ∀ θ, (setM L).map (fun x => (x.1, subD θ x.2)) = setM L := by
    intro θ
    simp [setM, subD]
  have hrow : ∀ (θ : Nat → Option Nat) (l : List (List UInt8)), ((l.map fun s => [D.s s]).map (subL θ)) = l.map fun s => [D.s s] := by
    intro θ l
    simp [subL, subD]
  have h := FnOK.ren (args' := [.fn (.func 124) [] [.ref r 0]]) [(nx, 2), (m, 0), (r, 1)] (f77_keys L hn hl hlen) ?_ ?_ ?_ ?_
  · have e : ((sortS L).map fun s => [D.s s]).map (subL (newOf [(nx, 2), (m, 0), (r, 1)])) = (sortS L).map fun s => [D.s s] := hrow _ _
    have e2 : ∀ θ : Nat → Option Nat, (subL θ ∘ fun s : List UInt8 => [D.s s]) = fun s => [D.s s] := by
      intro θ; funext s; simp [subL, subD]
    simpa [subS, Abs.look, newOf, subO, subD, subL, hset, e2] using h
  · have hb : ∀ a b : Nat, a ≠ b → Nat.beq a b = false := by
      intro a b h
      cases e : Nat.beq a b with
      | false => rfl
      | true => exact absurd (Nat.eq_of_beq_eq_true e) h
    simp [injB, hb _ _ hm, hb _ _ hr, hb _ _ hrm]
    exact ⟨⟨rfl, rfl⟩, rfl⟩
  · simp [subL, subD, preOf, oldOf, idP, Abs.look, hrm, hr, hm, Ne.symm hrm, Ne.symm hr, Ne.symm hm]
  · simp [mapS, subO, subL, subD, newOf, hset, preOf, oldOf, idP, Abs.look, hrm, hr, hm, Ne.symm hrm, Ne.symm hr, Ne.symm hm]
  · simp [newOf]
/-- What is known of slices.Sorted over maps.Keys. -/
noncomputable def hk : Nat → List D → Store → Nat → Option XC := fun k args S nx => whn (Nat.beq k 77) (match args with
  | [.fn (.func q) [] [.ref r o]] => whn (Nat.beq q 124 && Nat.beq o 0) (match lookB S r with
    | some (.box [.mp m]) => match lookB S m with
      | some (.mp es) => match keysS es with
        | some L => whn (nodupS L && (L.all fun s => Nat.ble s.length 16777216) && Nat.ble L.length 16777216 && Nat.blt r nx && Nat.blt m nx && !Nat.beq r m)
            (some (.own nx L.length, [(m, .mp es), (r, .box [.mp m])], [(nx, .row 9 1 ((isortS L).map fun s => [.s s])), (m, .mp es), (r, .box [.mp m])], nx + 1))
        | none => none
      | _ => none
    | _ => none)
  | _ => none)
theorem hk_ok : HookOK sys hk := by
  intro k args S nx d pre post nx' h
  simp only [hk, whn_some, lookB_eq] at h
  obtain ⟨hk, h⟩ := h
  have := Nat.eq_of_beq_eq_true hk
  subst this
  split at h
  · rename_i q r o
    simp only [whn_some, Bool.and_eq_true] at h
    obtain ⟨⟨hq, ho⟩, h⟩ := h
    have e1 := Nat.eq_of_beq_eq_true hq
    have e2 := Nat.eq_of_beq_eq_true ho
    subst e1 e2
    split at h
    · rename_i m hr
      split at h
      · rename_i es hm
        split at h
        · rename_i L hL
          simp only [whn_some, Bool.and_eq_true, nodupS_iff, List.all_eq_true, Nat.ble_eq, Nat.blt_eq, Bool.not_eq_true', Option.some.injEq, Prod.mk.injEq] at h
          obtain ⟨⟨⟨⟨⟨⟨h1, h2⟩, h3⟩, h4⟩, h5⟩, h6⟩, rfl, rfl, rfl, rfl⟩ := h
          have hrm : r ≠ m := by rintro rfl; simp at h6
          have hes := keysS_setM hL
          subst hes
          rw [isortS_eq]
          refine ⟨f77_at r m nx hrm (by omega) (by omega) L h1 h2 h3, fun x hx => ?_, Nat.le_succ _, fun x hx hn => ?_⟩
          · simp at hx
            rcases hx with rfl | rfl
            · exact hm
            · exact hr
          · simp at hx
            rcases hx with rfl | rfl | rfl
            · exact ⟨Nat.le_refl _, Nat.lt_succ_self _⟩
            · simp [Abs.look] at hn
            · simp only [Abs.look] at hn; split at hn <;> simp at hn
        · cases h
      · cases h
    · cases h
  · cases h
end Go.Proofs.YtjgooecohepkoaaGreatDoor
namespace Go.Proofs.YtjgooecohepkoaaGreatDoor
open Go Go.Abs
def fuelX : Nat := 1000000
noncomputable def RX : Run := X sys.T sys.gl fns.get hk ext fuelX
noncomputable def xf (k : Nat) (args : List D) (S : Store) (n : Nat) : Option XC := xCall sys.T fns.get hk RX k args S n
@[go_sem] def nilS : D := .v (.slice none 0 0)
@[go_sem] def i0 : D := .v (.int .i64 0)
@[go_sem] def vT (s : List UInt8) : List D := [.v (.int .i64 1), .s s, i0, i0, i0, nilS, nilS]
@[go_sem] def vN (n : Int) : List D := [.v (.int .i64 2), .s [], .v (.int .i64 n), i0, i0, nilS, nilS]
@[go_sem] def vZ : List D := [i0, .s [], i0, i0, i0, nilS, nilS]
@[go_sem] def sCity : List UInt8 := [99, 105, 116, 121]
@[go_sem] def sZip : List UInt8 := [122, 105, 112]
@[go_sem] def sCountry : List UInt8 := [99, 111, 117, 110, 116, 114, 121]
@[go_sem] def sNo : List UInt8 := [110, 111]
@[go_sem] def cCols : D := .sl [[.s sCity], [.s sZip], [.s sCountry]] 1
@[go_sem] def cRows : D := .sl [[.sl [vT [82, 111, 109, 101], vN 1, vT [105, 116]] 7], [.sl [vT [79, 115, 108, 111], vN 2, vT [110, 111]] 7], [.sl [vT [66, 101, 114, 103, 101, 110], vN 3, vT [110, 111]] 7]] 1
@[go_sem] def cTab : D := .agg [.s [116], cCols, cRows]
@[go_sem] def nTab : D := .agg [.v (.int .i64 5), .s [], i0, i0, i0, .sl [[.s [110]]] 1, .sl [[.sl [vN 3] 7], [.sl [vN (-5)] 7], [.sl [vN 4] 7]] 1]
theorem xf_fn {k : Nat} {args : List D} {S : Store} {n : Nat} {d : D} {pre post : Store} {n' : Nat} (h : xf k args S n = some (d, pre, post, n')) : FnOK sys k args pre d post := by
  unfold xf RX at h
  exact X_fn (Y := sys) (fns := fns.get) (hk := hk) (ext := ext) fns_ok hk_ok ext_ok fuelX h
end Go.Proofs.YtjgooecohepkoaaGreatDoor
namespace Go.Proofs.YtjgooecohepkoaaGreatDoor
open Go Go.Abs
theorem sf15a : FnOK sys 15 [cTab, .s sCity, .agg (vT [79, 115, 108, 111]), .s sCountry] [] (.tup [.agg (vT sNo), i0]) [] := xf_fn (S := []) (n := 0) (n' := 123) (by kernel_rfl)
theorem sf22a : FnOK sys 22 [nTab, .s [110], .agg [.v (.int .i64 (-2)), i0]] [] (.tup [.agg (vN 2), i0]) [] := xf_fn (S := []) (n := 0) (n' := 156) (by kernel_rfl)
theorem sf22b : FnOK sys 22 [nTab, .s [110], .agg [i0, i0]] [] (.tup [.agg vZ, .v (.int .i64 20)]) [] := xf_fn (S := []) (n := 0) (n' := 116) (by kernel_rfl)
theorem sf26a : FnOK sys 26 [cCols, cRows, .agg [.sl [[.s sCountry]] 1, .s sZip]] [] (.v (.bool false)) [] := xf_fn (S := []) (n := 0) (n' := 18) (by kernel_rfl)
theorem sf26b : FnOK sys 26 [cCols, cRows, .agg [.sl [[.s sCity]] 1, .s sCountry]] [] (.v (.bool true)) [] := xf_fn (S := []) (n := 0) (n' := 16) (by kernel_rfl)
theorem sf19 : FnOK sys 19 [cTab] [] (.v (.bool true)) [] := xf_fn (S := []) (n := 0) (n' := 103) (by kernel_rfl)
theorem sf18a : FnOK sys 18 [.agg (vT sNo), .agg (vT sNo)] [] (.v (.bool true)) [] := xf_fn (S := []) (n := 0) (n' := 2) (by kernel_rfl)
theorem sf18b : FnOK sys 18 [.agg (vN 2), .agg (vN 2)] [] (.v (.bool true)) [] := xf_fn (S := []) (n := 0) (n' := 2) (by kernel_rfl)
end Go.Proofs.YtjgooecohepkoaaGreatDoor
namespace Go.Proofs.YtjgooecohepkoaaGreatDoor
open Go Go.Abs
@[go_sem] def kPost : Store := [(149, .row 9 1 [[.s sZip]]), (145, .row 9 1 [[.s sZip]]), (85, .row 9 1 [[.s sCity]]), (81, .row 9 1 [[.s sCity]]), (151, .row 52 2 [[.own 81 1, .s sZip], [.own 85 1, .s sCountry], [.own 145 1, .s sCity], [.own 149 1, .s sCountry]])]
@[go_sem] def kWant : D := .sl [[.sl [[.s sCity]] 1, .s sZip], [.sl [[.s sCity]] 1, .s sCountry], [.sl [[.s sZip]] 1, .s sCity], [.sl [[.s sZip]] 1, .s sCountry]] 2
theorem sf46 : FnOK sys 46 [cCols, cRows] [] (.own 151 4) kPost := xf_fn (S := []) (n := 0) (n' := 187) (by kernel_rfl)
theorem sf15b : FnOK sys 15 [cTab, .s sCity, .agg (vT [80, 97, 114, 105, 115]), .s sCountry] [] (.tup [.agg vZ, .v (.int .i64 18)]) [] := xf_fn (S := []) (n := 0) (n' := 126) (by kernel_rfl)
theorem sf27 : FnOK sys 27 [.sl [[.sl [[.s [97]]] 1, .s [98]],[.sl [[.s [98]]] 1, .s [99]]] 2, .sl [[.s [97]]] 1] [] (.own 208 3) [(208, .row 9 1 [[.s [97]], [.s [98]], [.s [99]]])] := xf_fn (S := []) (n := 200) (n' := 209) (by kernel_rfl)
theorem sf28 : FnOK sys 28 [.own 208 3, .sl [[.s [97]],[.s [98]],[.s [99]]] 1] [(208, .row 9 1 [[.s [97]], [.s [98]], [.s [99]]])] (.v (.bool true)) [(208, .row 9 1 [[.s [97]], [.s [98]], [.s [99]]])] := xf_fn (S := [(208, .row 9 1 [[.s [97]], [.s [98]], [.s [99]]])]) (n := 209) (n' := 209) (by kernel_rfl)
theorem sf48r : FnOK sys 48 [.own 151 4, kWant] kPost (.v (.bool true)) kPost.reverse := xf_fn (S := kPost) (n := 152) (n' := 152) (by kernel_rfl)
theorem kPost_rev : Abs.look kPost.reverse = Abs.look kPost := by
  funext l
  simp only [kPost, List.reverse_cons, List.reverse_nil, List.nil_append, List.cons_append, Abs.look]
  by_cases h1 : 151 = l
  · subst h1; rfl
  by_cases h2 : 81 = l
  · subst h2; rfl
  by_cases h3 : 85 = l
  · subst h3; rfl
  by_cases h4 : 145 = l
  · subst h4; rfl
  by_cases h5 : 149 = l
  · subst h5; rfl
  simp [h1, h2, h3, h4, h5]
theorem sf48 : FnOK sys 48 [.own 151 4, kWant] kPost (.v (.bool true)) kPost := by
  refine ⟨sf48r.1, fun E w g vs hr hvs hs hf => ?_⟩
  have := sf48r.2 E w g vs hr hvs hs (by rw [kPost_rev]; exact hf)
  rwa [kPost_rev] at this
end Go.Proofs.YtjgooecohepkoaaGreatDoor
namespace Go.Proofs.YtjgooecohepkoaaGreatDoor
open Go Go.Abs
set_option linter.unusedSimpArgs false
set_option maxHeartbeats 2000000
theorem f45_ok (s : List UInt8) : FnOK sys 45 [.s s] [] (.agg (vT s)) [] := by
  refine FnOK.intro Tryz.f45 (by kernel_rfl) rfl rfl [.cell 2 33] rfl 0 rfl (Nat.le_of_ble_eq_true rfl) rfl rfl fun E hN h0 => W.code (N := 5) [] hN ?_
  repeat (first | refine st_end rfl ?_ | ((first | refine st1 fun K k => ?_ | refine st2 fun K k => ?_ | refine st3 rfl fun K k => ?_ | refine st4 fun K k => ?_); simp only [go_sem]; refine k _ _ _ _ _ _ ?_; clear k K))
  refine Done.mk (.inr rfl) Into.refl ?_ [] 0 ?_ ?_ ?_ ?_
  · rfl
  · rfl
  · simp only [go_sem]
  · trivial
  · rfl
theorem f47_ok (n : Int) : FnOK sys 47 [.v (.int .i64 n)] [] (.agg (vN n)) [] := by
  refine FnOK.intro Tryz.f47 (by kernel_rfl) rfl rfl [.cell 2 33] rfl 0 rfl (Nat.le_of_ble_eq_true rfl) rfl rfl fun E hN h0 => W.code (N := 6) [] hN ?_
  repeat (first | refine st_end rfl ?_ | ((first | refine st1 fun K k => ?_ | refine st2 fun K k => ?_ | refine st3 rfl fun K k => ?_ | refine st4 fun K k => ?_); simp only [go_sem]; refine k _ _ _ _ _ _ ?_; clear k K))
  refine Done.mk (.inr rfl) Into.refl ?_ [] 0 ?_ ?_ ?_ ?_
  · rfl
  · rfl
  · simp only [go_sem]
  · trivial
  · rfl
theorem f44_ok : FnOK sys 44 [] [] cTab [] := by
  refine FnOK.intro Tryz.f44 (by kernel_rfl) rfl rfl [.cell 0 28] rfl 0 rfl (Nat.le_of_ble_eq_true rfl) rfl rfl fun E hN h0 => W.code (N := 16) [1, 5, 9, 13, 14] hN ?_
  repeat (first | refine st_end rfl ?_ | ((first | refine st1 fun K k => ?_ | refine st2 fun K k => ?_ | refine st3 rfl fun K k => ?_ | refine st4 fun K k => ?_); simp only [go_sem]; refine k _ _ _ _ _ _ ?_; clear k K))
  refine st_op fun K k => ?_
  simp only [go_sem]
  refine callP (f45_ok _) ?_
  refine k _ _ _ _ _ ?_; clear k K
  refine st_op fun K k => ?_
  simp only [go_sem]
  refine callP (f47_ok _) ?_
  refine k _ _ _ _ _ ?_; clear k K
  refine st_op fun K k => ?_
  simp only [go_sem]
  refine callP (f45_ok _) ?_
  refine k _ _ _ _ _ ?_; clear k K
  repeat (first | refine st_end rfl ?_ | ((first | refine st1 fun K k => ?_ | refine st2 fun K k => ?_ | refine st3 rfl fun K k => ?_ | refine st4 fun K k => ?_); simp only [go_sem]; refine k _ _ _ _ _ _ ?_; clear k K))
  refine st_op fun K k => ?_
  simp only [go_sem]
  refine callP (f45_ok _) ?_
  refine k _ _ _ _ _ ?_; clear k K
  refine st_op fun K k => ?_
  simp only [go_sem]
  refine callP (f47_ok _) ?_
  refine k _ _ _ _ _ ?_; clear k K
  refine st_op fun K k => ?_
  simp only [go_sem]
  refine callP (f45_ok _) ?_
  refine k _ _ _ _ _ ?_; clear k K
  repeat (first | refine st_end rfl ?_ | ((first | refine st1 fun K k => ?_ | refine st2 fun K k => ?_ | refine st3 rfl fun K k => ?_ | refine st4 fun K k => ?_); simp only [go_sem]; refine k _ _ _ _ _ _ ?_; clear k K))
  refine st_op fun K k => ?_
  simp only [go_sem]
  refine callP (f45_ok _) ?_
  refine k _ _ _ _ _ ?_; clear k K
  refine st_op fun K k => ?_
  simp only [go_sem]
  refine callP (f47_ok _) ?_
  refine k _ _ _ _ _ ?_; clear k K
  refine st_op fun K k => ?_
  simp only [go_sem]
  refine callP (f45_ok _) ?_
  refine k _ _ _ _ _ ?_; clear k K
  repeat (first | refine st_end rfl ?_ | ((first | refine st1 fun K k => ?_ | refine st2 fun K k => ?_ | refine st3 rfl fun K k => ?_ | refine st4 fun K k => ?_); simp only [go_sem]; refine k _ _ _ _ _ _ ?_; clear k K))
  refine Done.mk (.inr rfl) Into.refl ?_ [] 0 ?_ ?_ ?_ ?_
  · rfl
  · rfl
  · simp only [go_sem]
  · trivial
  · rfl
set_option maxRecDepth 20000 in
set_option maxHeartbeats 2000000 in
theorem f11_ok : FnOK sys 11 [] [] (.v (.bool true)) [] := by
  refine FnOK.intro Tryz.f11 (by kernel_rfl) rfl rfl [.tmp 0] rfl 0 rfl (Nat.le_of_ble_eq_true rfl) rfl rfl fun E hN h0 => W.code (N := 128) [33, 35, 37, 39, 41, 42, 44, 46, 47, 49, 51, 53, 55, 56, 74, 83, 112] hN ?_
  repeat (first | refine st_end rfl ?_ | ((first | refine st1 fun K k => ?_ | refine st2 fun K k => ?_ | refine st3 rfl fun K k => ?_ | refine st4 fun K k => ?_); simp only [go_sem]; refine k _ _ _ _ _ _ ?_; clear k K))
  (first | refine st1 fun K k => ?_ | refine st3 rfl fun K k => ?_); simp only [go_sem]; refine callP (f44_ok) ?_; refine k _ _ _ _ _ _ ?_; clear k K
  repeat (first | refine st_end rfl ?_ | ((first | refine st1 fun K k => ?_ | refine st2 fun K k => ?_ | refine st3 rfl fun K k => ?_ | refine st4 fun K k => ?_); simp only [go_sem]; refine k _ _ _ _ _ _ ?_; clear k K))
  (first | refine st1 fun K k => ?_ | refine st3 rfl fun K k => ?_); simp only [go_sem]; refine callP (f45_ok _) ?_; refine k _ _ _ _ _ _ ?_; clear k K
  (first | refine st1 fun K k => ?_ | refine st3 rfl fun K k => ?_); simp only [go_sem]; refine callP (sf15a) ?_; refine k _ _ _ _ _ _ ?_; clear k K
  repeat (first | refine st_end rfl ?_ | ((first | refine st1 fun K k => ?_ | refine st2 fun K k => ?_ | refine st3 rfl fun K k => ?_ | refine st4 fun K k => ?_); simp only [go_sem]; refine k _ _ _ _ _ _ ?_; clear k K))
  (first | refine st1 fun K k => ?_ | refine st3 rfl fun K k => ?_); simp only [go_sem]; refine callP (f45_ok _) ?_; refine k _ _ _ _ _ _ ?_; clear k K
  (first | refine st1 fun K k => ?_ | refine st3 rfl fun K k => ?_); simp only [go_sem]; refine callP (sf15b) ?_; refine k _ _ _ _ _ _ ?_; clear k K
  repeat (first | refine st_end rfl ?_ | ((first | refine st1 fun K k => ?_ | refine st2 fun K k => ?_ | refine st3 rfl fun K k => ?_ | refine st4 fun K k => ?_); simp only [go_sem]; refine k _ _ _ _ _ _ ?_; clear k K))
  refine st_op fun K k => ?_
  simp only [go_sem]
  refine callT sf46 152 (by trivial) (by omega) (by simp only [go_sem]) ?_
  simp only [go_sem]
  refine k _ _ _ _ _ ?_; clear k K
  repeat (first | refine st_end rfl ?_ | ((first | refine st1 fun K k => ?_ | refine st2 fun K k => ?_ | refine st3 rfl fun K k => ?_ | refine st4 fun K k => ?_); simp only [go_sem]; refine k _ _ _ _ _ _ ?_; clear k K))
  refine st_op fun K k => ?_
  simp only [go_sem]
  refine callT sf27 209 (by trivial) (by omega) (by simp only [go_sem]) ?_
  simp only [go_sem]
  refine k _ _ _ _ _ ?_; clear k K
  repeat (first | refine st_end rfl ?_ | ((first | refine st1 fun K k => ?_ | refine st2 fun K k => ?_ | refine st3 rfl fun K k => ?_ | refine st4 fun K k => ?_); simp only [go_sem]; refine k _ _ _ _ _ _ ?_; clear k K))
  (first | refine st1 fun K k => ?_ | refine st3 rfl fun K k => ?_); simp only [go_sem]; refine callP (f47_ok _) ?_; refine k _ _ _ _ _ _ ?_; clear k K
  repeat (first | refine st_end rfl ?_ | ((first | refine st1 fun K k => ?_ | refine st2 fun K k => ?_ | refine st3 rfl fun K k => ?_ | refine st4 fun K k => ?_); simp only [go_sem]; refine k _ _ _ _ _ _ ?_; clear k K))
  (first | refine st1 fun K k => ?_ | refine st3 rfl fun K k => ?_); simp only [go_sem]; refine callP (f47_ok _) ?_; refine k _ _ _ _ _ _ ?_; clear k K
  repeat (first | refine st_end rfl ?_ | ((first | refine st1 fun K k => ?_ | refine st2 fun K k => ?_ | refine st3 rfl fun K k => ?_ | refine st4 fun K k => ?_); simp only [go_sem]; refine k _ _ _ _ _ _ ?_; clear k K))
  (first | refine st1 fun K k => ?_ | refine st3 rfl fun K k => ?_); simp only [go_sem]; refine callP (f47_ok _) ?_; refine k _ _ _ _ _ _ ?_; clear k K
  repeat (first | refine st_end rfl ?_ | ((first | refine st1 fun K k => ?_ | refine st2 fun K k => ?_ | refine st3 rfl fun K k => ?_ | refine st4 fun K k => ?_); simp only [go_sem]; refine k _ _ _ _ _ _ ?_; clear k K))
  (first | refine st1 fun K k => ?_ | refine st3 rfl fun K k => ?_); simp only [go_sem]; refine callP (sf22a) ?_; refine k _ _ _ _ _ _ ?_; clear k K
  repeat (first | refine st_end rfl ?_ | ((first | refine st1 fun K k => ?_ | refine st2 fun K k => ?_ | refine st3 rfl fun K k => ?_ | refine st4 fun K k => ?_); simp only [go_sem]; refine k _ _ _ _ _ _ ?_; clear k K))
  (first | refine st1 fun K k => ?_ | refine st3 rfl fun K k => ?_); simp only [go_sem]; refine callP (sf22b) ?_; refine k _ _ _ _ _ _ ?_; clear k K
  repeat (first | refine st_end rfl ?_ | ((first | refine st1 fun K k => ?_ | refine st2 fun K k => ?_ | refine st3 rfl fun K k => ?_ | refine st4 fun K k => ?_); simp only [go_sem]; refine k _ _ _ _ _ _ ?_; clear k K))
  (first | refine st1 fun K k => ?_ | refine st3 rfl fun K k => ?_); simp only [go_sem]; refine callP (sf26a) ?_; refine k _ _ _ _ _ _ ?_; clear k K
  repeat (first | refine st_end rfl ?_ | ((first | refine st1 fun K k => ?_ | refine st2 fun K k => ?_ | refine st3 rfl fun K k => ?_ | refine st4 fun K k => ?_); simp only [go_sem]; refine k _ _ _ _ _ _ ?_; clear k K))
  (first | refine st1 fun K k => ?_ | refine st3 rfl fun K k => ?_); simp only [go_sem]; refine callP (sf26b) ?_; refine k _ _ _ _ _ _ ?_; clear k K
  repeat (first | refine st_end rfl ?_ | ((first | refine st1 fun K k => ?_ | refine st2 fun K k => ?_ | refine st3 rfl fun K k => ?_ | refine st4 fun K k => ?_); simp only [go_sem]; refine k _ _ _ _ _ _ ?_; clear k K))
  (first | refine st1 fun K k => ?_ | refine st3 rfl fun K k => ?_); simp only [go_sem]; refine callP (sf19) ?_; refine k _ _ _ _ _ _ ?_; clear k K
  repeat (first | refine st_end rfl ?_ | ((first | refine st1 fun K k => ?_ | refine st2 fun K k => ?_ | refine st3 rfl fun K k => ?_ | refine st4 fun K k => ?_); simp only [go_sem]; refine k _ _ _ _ _ _ ?_; clear k K))
  (first | refine st1 fun K k => ?_ | refine st3 rfl fun K k => ?_); simp only [go_sem]; refine callP (f45_ok _) ?_; refine k _ _ _ _ _ _ ?_; clear k K
  repeat (first | refine st_end rfl ?_ | ((first | refine st1 fun K k => ?_ | refine st2 fun K k => ?_ | refine st3 rfl fun K k => ?_ | refine st4 fun K k => ?_); simp only [go_sem]; refine k _ _ _ _ _ _ ?_; clear k K))
  (first | refine st1 fun K k => ?_ | refine st3 rfl fun K k => ?_); simp only [go_sem]; refine callP (sf18a) ?_; refine k _ _ _ _ _ _ ?_; clear k K
  repeat (first | refine st_end rfl ?_ | ((first | refine st1 fun K k => ?_ | refine st2 fun K k => ?_ | refine st3 rfl fun K k => ?_ | refine st4 fun K k => ?_); simp only [go_sem]; refine k _ _ _ _ _ _ ?_; clear k K))
  refine st3 rfl fun K k => ?_
  simp only [go_sem]
  refine callK sf48 (by simp only [go_sem]) ?_
  refine k _ _ _ _ _ _ ?_; clear k K
  repeat (first | refine st_end rfl ?_ | ((first | refine st1 fun K k => ?_ | refine st2 fun K k => ?_ | refine st3 rfl fun K k => ?_ | refine st4 fun K k => ?_); simp only [go_sem]; refine k _ _ _ _ _ _ ?_; clear k K))
  refine st3 rfl fun K k => ?_
  simp only [go_sem]
  refine callK sf28 (by simp only [go_sem]) ?_
  refine k _ _ _ _ _ _ ?_; clear k K
  repeat (first | refine st_end rfl ?_ | ((first | refine st1 fun K k => ?_ | refine st2 fun K k => ?_ | refine st3 rfl fun K k => ?_ | refine st4 fun K k => ?_); simp only [go_sem]; refine k _ _ _ _ _ _ ?_; clear k K))
  (first | refine st1 fun K k => ?_ | refine st3 rfl fun K k => ?_); simp only [go_sem]; refine callP (f47_ok _) ?_; refine k _ _ _ _ _ _ ?_; clear k K
  repeat (first | refine st_end rfl ?_ | ((first | refine st1 fun K k => ?_ | refine st2 fun K k => ?_ | refine st3 rfl fun K k => ?_ | refine st4 fun K k => ?_); simp only [go_sem]; refine k _ _ _ _ _ _ ?_; clear k K))
  (first | refine st1 fun K k => ?_ | refine st3 rfl fun K k => ?_); simp only [go_sem]; refine callP (sf18b) ?_; refine k _ _ _ _ _ _ ?_; clear k K
  repeat (first | refine st_end rfl ?_ | ((first | refine st1 fun K k => ?_ | refine st2 fun K k => ?_ | refine st3 rfl fun K k => ?_ | refine st4 fun K k => ?_); simp only [go_sem]; refine k _ _ _ _ _ _ ?_; clear k K))
  refine Done.mk (.inr rfl) Into.refl ?_ [] 0 ?_ ?_ ?_ ?_
  · rfl
  · rfl
  · simp only [go_sem]
  · trivial
  · rfl
end Go.Proofs.YtjgooecohepkoaaGreatDoor
namespace Go.Proofs.YtjgooecohepkoaaGreatDoor
open Go Go.Abs
set_option linter.unusedSimpArgs false
set_option maxHeartbeats 2000000
theorem f12_val (L : List Int) : FnOK sys 12 [.s [116], ints L] [] (.agg [.s [116], strsD (mCols L), rowsV (mVals L)]) [] :=
  (f12_ok [116] L).leRes (LeD.agg (LeL.cons (LeD.refl _) (LeL.cons (LeD.refl _) (LeL.cons (rows_le _) LeL.nil))))
theorem f13_val (kind n : Int) : FnOK sys 13 [.v (.int .i64 kind), .v (.int .i64 n)] [] (.agg (encV (cellV kind (mod5 n)).val)) [] :=
  (f13_ok kind n).leRes (LeD.agg (cells_le _))
def kinds3 : List Int := [1, 2, 3]
theorem kinds3_at {j : Nat} (h : j < 3) : ([[.v (.int .i64 1)], [.v (.int .i64 2)], [.v (.int .i64 3)]] : List (List D))[j]? = some [.v (.int .i64 (kinds3.getD j 1))] := by
  rcases j with _ | _ | _ | j <;> first | rfl | omega
open Classical in
theorem f3_ok (L : List Int) (q0 q1 q2 r0 r1 r2 : Int) : FnOK sys 3 [ints L, .agg [.v (.int .i64 q0), .v (.int .i64 q1), .v (.int .i64 q2)], .agg [.v (.int .i64 r0), .v (.int .i64 r1), .v (.int .i64 r2)]] [] (.v (.bool true)) [] := by
  have hmade := f12_val L
  have hodd := f14_ok [116] (mCols L) (mVals L) q0 q1 q2 (made_tab_small L) (by rw [mCols_len]; exact (mMany_bd L).1) (mVals_sq L)
  have hg0 := made_good L
  have hg1 := odd_good hg0 q0 q1 q2
  have hright := made_right L
  have h19 := f19_ok [116] (mCols L) (mVals L) hg0.hn hg0.hc
  rw [hright] at h19
  obtain ⟨cols, hcols⟩ : ∃ c, mCols L = c := ⟨_, rfl⟩
  obtain ⟨rows, hrows⟩ : ∃ r, mVals L = r := ⟨_, rfl⟩
  rw [hcols, hrows] at hmade hodd hg0 hg1 h19
  obtain ⟨n1, hn1⟩ : ∃ n, oddName [116] q0 q1 = n := ⟨_, rfl⟩
  obtain ⟨c1, hc1⟩ : ∃ n, oddCols cols q0 = n := ⟨_, rfl⟩
  obtain ⟨w1, hw1⟩ : ∃ n, oddRows cols rows q0 q1 q2 = n := ⟨_, rfl⟩
  rw [hn1, hc1, hw1] at hodd hg1
  obtain ⟨x, hx⟩ : ∃ x, IntKind.wrap .i64 (r1.tdiv 5) = x := ⟨_, rfl⟩
  have u1 : IntKind.wrap .i64 (x.tmod 3 + 3) = x.tmod 3 + 3 := (modN_eq 3 (by omega) (by omega) x).1
  have u2 : (x.tmod 3 + 3).tmod 3 = (modN 3 x : Int) := (modN_eq 3 (by omega) (by omega) x).2.1
  have hk3 := kinds3_at (modN_eq 3 (by omega) (by omega) x).2.2
  have hcell := f13_val (kinds3.getD (modN 3 x) 1) r1
  obtain ⟨v, hv⟩ : ∃ v, (cellV (kinds3.getD (modN 3 x) 1) (mod5 r1)).val = v := ⟨_, rfl⟩
  rw [hv] at hcell
  have k16a := f16_ok r0
  have k16b := f16_ok r2
  obtain ⟨key, hkey⟩ : ∃ n, names6.getD (mod6 r0) [] = n := ⟨_, rfl⟩
  obtain ⟨col, hcol⟩ : ∃ n, names6.getD (mod6 r2) [] = n := ⟨_, rfl⟩
  rw [hkey] at k16a
  rw [hcol] at k16b
  have hfind : ∀ n c w, Good n c w → FnOK sys 15 [.agg [.s n, strsD c, rowsV w], .s key, .agg (encV v), .s col] [] (.tup [.agg (encV (findT n c w key v col).1), .v (.int .i64 (findT n c w key v col).2)]) [] := fun n c w h => f15_ok n c w key v col h.hn h.hc h.hm
  have hfind2 : ∀ n c w, Good n c w → FnOK sys 17 [.agg [.s n, strsD c, rowsV w], .s key, .agg (encV v), .s col] [] (.tup [.agg (encV (findT n c w key v col).1), .v (.int .i64 (findT n c w key v col).2)]) [] := fun n c w h => f17_ok n c w key v col h.hn h.hc h.hs
  obtain ⟨kd, s, dn, ds, num, cs, rs⟩ := v
  simp only [encV] at hcell
  refine FnOK.intro Tryz.f3 (by kernel_rfl) rfl rfl [.tmp 6] rfl 0 rfl (Nat.le_of_ble_eq_true rfl) rfl rfl fun E hN h0 => W.code (N := 87) [4, 5, 19, 35] hN ?_
  repeat (first | refine st_end rfl ?_ | ((first | refine st1 fun K k => ?_ | refine st2 fun K k => ?_ | refine st3 rfl fun K k => ?_ | refine st4 fun K k => ?_); simp only [go_sem]; refine k _ _ _ _ _ _ ?_; clear k K))
  (first | refine st1 fun K k => ?_ | refine st3 rfl fun K k => ?_); simp only [go_sem]; refine callP (f11_ok) ?_; refine k _ _ _ _ _ _ ?_; clear k K
  repeat (first | refine st_end rfl ?_ | ((first | refine st1 fun K k => ?_ | refine st2 fun K k => ?_ | refine st3 rfl fun K k => ?_ | refine st4 fun K k => ?_); simp only [go_sem]; refine k _ _ _ _ _ _ ?_; clear k K))
  (first | refine st1 fun K k => ?_ | refine st3 rfl fun K k => ?_); simp only [go_sem]; refine callP (hmade) ?_; refine k _ _ _ _ _ _ ?_; clear k K
  repeat (first | refine st_end rfl ?_ | ((first | refine st1 fun K k => ?_ | refine st2 fun K k => ?_ | refine st3 rfl fun K k => ?_ | refine st4 fun K k => ?_); simp only [go_sem, hx, u1, u2, hk3]; refine k _ _ _ _ _ _ ?_; clear k K))
  (first | refine st1 fun K k => ?_ | refine st3 rfl fun K k => ?_); simp only [go_sem]; refine callP (hcell) ?_; refine k _ _ _ _ _ _ ?_; clear k K
  repeat (first | refine st_end rfl ?_ | ((first | refine st1 fun K k => ?_ | refine st2 fun K k => ?_ | refine st3 rfl fun K k => ?_ | refine st4 fun K k => ?_); simp only [go_sem]; refine k _ _ _ _ _ _ ?_; clear k K))
  (first | refine st1 fun K k => ?_ | refine st3 rfl fun K k => ?_); simp only [go_sem]; refine callP (hodd) ?_; refine k _ _ _ _ _ _ ?_; clear k K
  repeat (first | refine st_end rfl ?_ | ((first | refine st1 fun K k => ?_ | refine st2 fun K k => ?_ | refine st3 rfl fun K k => ?_ | refine st4 fun K k => ?_); simp only [go_sem]; refine k _ _ _ _ _ _ ?_; clear k K))
  have hlist : ∀ i, i < 2 → ∃ n c w, ([[.s [116], strsD cols, rowsV rows], [.s n1, strsD c1, rowsV w1]] : List (List D))[i]? = some [.s n, strsD c, rowsV w] ∧ Good n c w := by
    intro i hi
    rcases i with _ | _ | i
    · exact ⟨_, _, _, rfl, hg0⟩
    · exact ⟨_, _, _, rfl, hg1⟩
    · omega
  refine W.loopP (fun i : Nat => ⟨[(4, .ep [.v (.int .i64 q0), .v (.int .i64 q1), .v (.int .i64 q2)]), (5, .ep [.v (.int .i64 r0), .v (.int .i64 r1), .v (.int .i64 r2)]), (7, .v (.bool true)), (8, .ref 0 0), (9, .ref 1 0), (35, .sl [[.s [116], strsD cols, rowsV rows], [.s n1, strsD c1, rowsV w1]] 3), (36, .v (.int .i64 ((2 : Nat) : Int))), (37, .v (.int .i64 i))],
      [(0, .box [.s [116], strsD cols, rowsV rows]), (1, .box [.v (.int .i64 kd), .s s, .v (.int .i64 dn), .v (.int .i64 ds), .v (.int .i64 num), strsD cs, .sl (encRs rs) 1])], 2, []⟩)
    (fun i => i ≤ 2) (fun i => 2 - i) 0 (Nat.zero_le _) (Into.le ?_ ?_ (Nat.le_refl _) rfl) fun i hi => W.code (N := 87) [4, 5, 19, 35] hN ?_
  · simp only [go_sem]
    exact LeD.refl _
  · simp only [go_sem]
  repeat (first | refine st_end rfl ?_ | ((first | refine st1 fun K k => ?_ | refine st2 fun K k => ?_ | refine st3 rfl fun K k => ?_ | refine st4 fun K k => ?_); simp only [go_sem]; refine k _ _ _ _ _ _ ?_; clear k K))
  refine st_cond fun A B a b => ?_; simp only [go_sem]; refine ⟨fun g => a ?_, fun g => b ?_⟩ <;> clear a b A B
  · obtain ⟨n, c, w, hget, hgood⟩ := hlist i (by omega)
    have hf1 := hfind n c w hgood
    have hf2 := hfind2 n c w hgood
    have h19b := f19_ok n c w hgood.hn hgood.hc
    have h20b := f20_ok n c w hgood.hn hgood.hc hgood.hs
    obtain ⟨p, hp⟩ : ∃ p, findT n c w key (.mk kd s dn ds num cs rs) col = p := ⟨_, rfl⟩
    rw [hp] at hf1 hf2
    obtain ⟨⟨k2, s2, dn2, ds2, num2, c2, rw2⟩, err⟩ := p
    simp only at hf1 hf2
    have h18 := f18_ok (.mk k2 s2 dn2 ds2 num2 c2 rw2) (.mk k2 s2 dn2 ds2 num2 c2 rw2)
    rw [decide_eq_true rfl] at h18
    simp only [encV] at hf1 hf2 h18
    have w5 : IntKind.wrap .i64 ((i : Int) + 1) = ((i + 1 : Nat) : Int) := wrapTo (by omega)
    simp only [go_sem] at hget
    repeat (first | refine st_end rfl ?_ | ((first | refine st1 fun K k => ?_ | refine st2 fun K k => ?_ | refine st3 rfl fun K k => ?_ | refine st4 fun K k => ?_); simp only [go_sem, hget]; refine k _ _ _ _ _ _ ?_; clear k K))
    (first | refine st1 fun K k => ?_ | refine st3 rfl fun K k => ?_); simp only [go_sem]; refine callP (k16a) ?_; refine k _ _ _ _ _ _ ?_; clear k K
    repeat (first | refine st_end rfl ?_ | ((first | refine st1 fun K k => ?_ | refine st2 fun K k => ?_ | refine st3 rfl fun K k => ?_ | refine st4 fun K k => ?_); simp only [go_sem]; refine k _ _ _ _ _ _ ?_; clear k K))
    (first | refine st1 fun K k => ?_ | refine st3 rfl fun K k => ?_); simp only [go_sem]; refine callP (k16b) ?_; refine k _ _ _ _ _ _ ?_; clear k K
    repeat (first | refine st_end rfl ?_ | ((first | refine st1 fun K k => ?_ | refine st2 fun K k => ?_ | refine st3 rfl fun K k => ?_ | refine st4 fun K k => ?_); simp only [go_sem]; refine k _ _ _ _ _ _ ?_; clear k K))
    (first | refine st1 fun K k => ?_ | refine st3 rfl fun K k => ?_); simp only [go_sem]; refine callP (hf1) ?_; refine k _ _ _ _ _ _ ?_; clear k K
    repeat (first | refine st_end rfl ?_ | ((first | refine st1 fun K k => ?_ | refine st2 fun K k => ?_ | refine st3 rfl fun K k => ?_ | refine st4 fun K k => ?_); simp only [go_sem]; refine k _ _ _ _ _ _ ?_; clear k K))
    (first | refine st1 fun K k => ?_ | refine st3 rfl fun K k => ?_); simp only [go_sem]; refine callP (k16a) ?_; refine k _ _ _ _ _ _ ?_; clear k K
    repeat (first | refine st_end rfl ?_ | ((first | refine st1 fun K k => ?_ | refine st2 fun K k => ?_ | refine st3 rfl fun K k => ?_ | refine st4 fun K k => ?_); simp only [go_sem]; refine k _ _ _ _ _ _ ?_; clear k K))
    (first | refine st1 fun K k => ?_ | refine st3 rfl fun K k => ?_); simp only [go_sem]; refine callP (k16b) ?_; refine k _ _ _ _ _ _ ?_; clear k K
    repeat (first | refine st_end rfl ?_ | ((first | refine st1 fun K k => ?_ | refine st2 fun K k => ?_ | refine st3 rfl fun K k => ?_ | refine st4 fun K k => ?_); simp only [go_sem]; refine k _ _ _ _ _ _ ?_; clear k K))
    (first | refine st1 fun K k => ?_ | refine st3 rfl fun K k => ?_); simp only [go_sem]; refine callP (hf2) ?_; refine k _ _ _ _ _ _ ?_; clear k K
    repeat (first | refine st_end rfl ?_ | ((first | refine st1 fun K k => ?_ | refine st2 fun K k => ?_ | refine st3 rfl fun K k => ?_ | refine st4 fun K k => ?_); simp only [go_sem, bne_self_eq_false]; refine k _ _ _ _ _ _ ?_; clear k K))
    (first | refine st1 fun K k => ?_ | refine st3 rfl fun K k => ?_); simp only [go_sem]; refine callP (h18) ?_; refine k _ _ _ _ _ _ ?_; clear k K
    repeat (first | refine st_end rfl ?_ | ((first | refine st1 fun K k => ?_ | refine st2 fun K k => ?_ | refine st3 rfl fun K k => ?_ | refine st4 fun K k => ?_); simp only [go_sem]; refine k _ _ _ _ _ _ ?_; clear k K))
    (first | refine st1 fun K k => ?_ | refine st3 rfl fun K k => ?_); simp only [go_sem]; refine callP (h19b) ?_; refine k _ _ _ _ _ _ ?_; clear k K
    repeat (first | refine st_end rfl ?_ | ((first | refine st1 fun K k => ?_ | refine st2 fun K k => ?_ | refine st3 rfl fun K k => ?_ | refine st4 fun K k => ?_); simp only [go_sem]; refine k _ _ _ _ _ _ ?_; clear k K))
    (first | refine st1 fun K k => ?_ | refine st3 rfl fun K k => ?_); simp only [go_sem]; refine callP (h20b) ?_; refine k _ _ _ _ _ _ ?_; clear k K
    repeat (first | refine st_end rfl ?_ | ((first | refine st1 fun K k => ?_ | refine st2 fun K k => ?_ | refine st3 rfl fun K k => ?_ | refine st4 fun K k => ?_); simp only [go_sem, bne_self_eq_false, beq_self_eq_true, w5]; refine k _ _ _ _ _ _ ?_; clear k K))
    refine ⟨i + 1, by omega, by omega, (Into.ren h0 [(0, 0), (1, 1)] 2 rfl).trans (Into.le ?_ ?_ (Nat.le_refl _) rfl)⟩
    · simp only [go_sem, newOf]
    · simp only [go_sem, newOf]
  · refine iq Into.refl ?_
    repeat (first | refine st_end rfl ?_ | ((first | refine st1 fun K k => ?_ | refine st2 fun K k => ?_ | refine st3 rfl fun K k => ?_ | refine st4 fun K k => ?_); simp only [go_sem]; refine k _ _ _ _ _ _ ?_; clear k K))
    (first | refine st1 fun K k => ?_ | refine st3 rfl fun K k => ?_); simp only [go_sem]; refine callP (h19) ?_; refine k _ _ _ _ _ _ ?_; clear k K
    repeat (first | refine st_end rfl ?_ | ((first | refine st1 fun K k => ?_ | refine st2 fun K k => ?_ | refine st3 rfl fun K k => ?_ | refine st4 fun K k => ?_); simp only [go_sem]; refine k _ _ _ _ _ _ ?_; clear k K))
    refine Done.t1 ?_
    simp only [go_sem]
end Go.Proofs.YtjgooecohepkoaaGreatDoor
