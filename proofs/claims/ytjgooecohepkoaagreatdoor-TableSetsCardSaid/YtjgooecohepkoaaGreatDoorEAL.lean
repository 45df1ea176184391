/- An abstract walk over the model: what a function does, as a computation on described values; proved once for all functions. -/
import Derived.Test.YtjgooecohepkoaaGreatDoorEAK
set_option linter.unusedVariables false
set_option linter.unusedSimpArgs false
namespace Go.Abs
set_option linter.unusedSimpArgs false
open Go

section
variable (T : Nat → Option TI)
noncomputable def xFill (pl : Nat → Option (Nat × Nat)) : List (Nat × D) → List D → Option (List D)
  | [], cs => some cs
  | (i, d) :: r, cs => (pl i).bind fun p => (cellsD d).bind fun new => whn (Nat.beq new.length p.2 && Nat.ble (p.1 + p.2) cs.length) (xFill pl r (overD cs p.1 new))
noncomputable def xPlaces : List (Nat × Nat) → Option (List (Nat × Nat))
  | [] => some []
  | (off, ty) :: r => (T ty).bind fun ti => (xPlaces r).map fun l => (off, ti.size) :: l
noncomputable def xBuild (t : Nat) (parts : List (Nat × D)) (S : Store) (nx : Nat) : Option XR := (T t).bind fun ti => match ti.k with
  | .struct fs => (xPlaces T fs).bind fun pl => (xFill (pl[·]?) parts ti.zero).map fun cs => (.agg cs, S, nx, [], [])
  | .array _ e => (T e).bind fun fe => (xFill (fun i => some (i * fe.size, fe.size)) parts ti.zero).map fun cs => (.agg cs, S, nx, [], [])
  | _ => none
noncomputable def xRow (e : TypeId) (size : Nat) (es : List (List D)) (S : Store) (nx : Nat) : Option XR := some (.own nx es.length, putB S nx (.row e size es), nx + 1, [], [nx])
noncomputable def xFillE (size : Nat) : List (Nat × D) → List (List D) → Option (List (List D))
  | [], es => some es
  | (i, d) :: r, es => (cellsD d).bind fun new => whn (Nat.beq new.length size && Nat.blt i es.length) (xFillE size r (es.set i new))
noncomputable def xBuildSlice (t len : Nat) (parts : List (Nat × D)) (S : Store) (nx : Nat) : Option XR := (T t).bind fun ti => match ti.k with
  | .slice e => (T e).bind fun fe => whn (Nat.ble (len * fe.size) 16777216 && Nat.ble len 16777216 && Nat.beq fe.zero.length fe.size) ((xFillE fe.size parts (List.replicate len fe.zero)).bind fun es => xRow e fe.size es S nx)
  | _ => none
noncomputable def xMakeSlice (t : Nat) (l c : D) (S : Store) (nx : Nat) : Option XR := (T t).bind fun ti => (intD l).bind fun n => (intD c).bind fun m => match ti.k with
  | .slice e => (T e).bind fun fe => whn (decide (0 ≤ n) && decide (n = m) && Nat.beq fe.zero.length fe.size && Nat.ble (fe.bytes * n.toNat) 281474976710656 && Nat.ble n.toNat 16777216) (xRow e fe.size (List.replicate n.toNat fe.zero) S nx)
  | _ => none
noncomputable def xSlice (t : Nat) (x : D) (lo hi : Option D) (S : Store) (nx : Nat) : Option XR := (T t).bind fun ti => match ti.k, x with
  | .str, .s l => (boundD lo 0).bind fun a => (boundD hi l.length).bind fun b => whn (decide (0 ≤ a) && decide (a ≤ b) && decide (b ≤ l.length)) (some (.s ((l.take b.toNat).drop a.toNat), S, nx, [], []))
  | .slice e, .sl es sz => (T e).bind fun fe => whn (Nat.beq fe.size sz) ((boundD lo 0).bind fun a => (boundD hi es.length).bind fun b => whn (decide (0 ≤ a) && decide (a ≤ b) && decide (b ≤ es.length)) (some (.sl ((es.take b.toNat).drop a.toNat) sz, S, nx, [], [])))
  | .slice e, .own l n => (T e).bind fun _ => (boundD lo 0).bind fun a => (boundD hi n).bind fun b => whn (decide (a = 0) && decide (0 ≤ b) && decide (b ≤ n)) (some (.own l b.toNat, S, nx, [], []))
  | .slice e, .v (.slice none 0 0) => (T e).bind fun _ => (boundD lo 0).bind fun a => (boundD hi 0).bind fun b => whn (decide (a = 0) && decide (b = 0)) (some (.v (.slice none 0 0), S, nx, [], []))
  | _, _ => none
noncomputable def xSrc (size : Nat) (x : D) : Option (List (List D)) := match x with
  | .sl es sz => whn (Nat.beq sz size && es.all fun e => e.all oneD) (some es)
  | .v (.slice none 0 _) => some []
  | _ => none
noncomputable def xAppend (t : Nat) (s x : D) (S : Store) (nx : Nat) : Option XR := (T t).bind fun ti => match ti.k with
  | .slice e => (T e).bind fun fe => whn (Nat.blt 0 fe.size && Nat.beq fe.zero.length fe.size) ((xSrc fe.size x).bind fun es2 => match s with
    | .v (.slice none 0 0) => whn (Nat.ble es2.length 16777216 && Nat.ble (es2.length * fe.bytes) 140737488355328) (some (.own nx es2.length, putB S nx (.row e fe.size es2), nx + 1, [], [nx]))
    | .own l n => match lookB S l with
      | some (.row e' sz es) => whn (Nat.beq e' e && Nat.beq sz fe.size && Nat.beq n es.length && Nat.blt l nx && Nat.ble (es.length + es2.length) 16777216 && Nat.ble ((es.length + es2.length) * fe.bytes) 140737488355328)
          (some (.own nx (es.length + es2.length), putB (delB S l) nx (.row e sz (es ++ es2)), nx + 1, [l], [nx, l]))
      | _ => none
    | _ => none)
  | _ => none
noncomputable def xLen (t : Nat) (x : D) (S : Store) (nx : Nat) : Option XR := (T t).bind fun ti => match ti.k, x with
  | .str, .s l => some (.v (.int .i64 l.length), S, nx, [], [])
  | .slice _, .sl es _ => some (.v (.int .i64 es.length), S, nx, [], [])
  | .slice _, .own _ n => some (.v (.int .i64 n), S, nx, [], [])
  | .slice _, .v (.slice _ n _) => some (.v (.int .i64 n), S, nx, [], [])
  | .map _ _, .mp l => match lookB S l with
    | some (.mp es) => some (.v (.int .i64 es.length), S, nx, [l], [])
    | _ => none
  | .map _ _, .fmp ks _ => some (.v (.int .i64 ks.length), S, nx, [], [])
  | _, _ => none
noncomputable def xUn (op : UnOp) (x : D) (S : Store) (nx : Nat) : Option XR := match op, x with
  | .not, .v (.bool b) => some (.v (.bool !b), S, nx, [], [])
  | .neg, .v (.int k n) => some (.v (.int k (k.wrap (0 - n))), S, nx, [], [])
  | _, _ => none
end

section
variable {Y : Sy} {E : Env Y} {S S' : Store} {nx nx' : Nat} {ls ws : List Nat} {d : D} {K : KT}
theorem xFill_ok {pl : Nat → Option (Nat × Nat)} {K : List D → Prop} : ∀ {parts : List (Nat × D)} {cs r : List D}, xFill pl parts cs = some r → K r → fillD pl parts cs K
  | [], cs, r, h, hK => by simp only [lookB_eq, getB_eq, evB_eq, putB_eq, delB_eq, putAllB_eq, delAllB_eq, idB_eq, newB_eq, pickB_eq, subSB_eq, renBB_eq, xFill, Option.some.injEq] at h; subst h; exact hK
  | (i, d) :: ps, cs, r, h, hK => by
    simp only [lookB_eq, getB_eq, evB_eq, putB_eq, delB_eq, putAllB_eq, delAllB_eq, idB_eq, newB_eq, pickB_eq, subSB_eq, renBB_eq, xFill, Option.bind_eq_some_iff, whn_some, Bool.and_eq_true] at h
    obtain ⟨p, hp, new, hn, ⟨h1, h2⟩, h⟩ := h
    have h3 := Nat.eq_of_beq_eq_true h1
    simp only [Nat.ble_eq] at h2
    unfold fillD
    have hr := xFill_ok h hK
    exact ⟨p, hp, new, hn, by first | exact ⟨h3, h2, hr⟩ | exact ⟨⟨h3, h2⟩, hr⟩ | (refine ⟨h3, ?_, hr⟩; omega)⟩
theorem xPlaces_ok : ∀ {fs : List (Nat × Nat)} {pl : List (Nat × Nat)}, xPlaces Y.T fs = some pl → placesD E fs = some pl
  | [], pl, h => by simpa [xPlaces, placesD] using h
  | (off, ty) :: r, pl, h => by
    simp only [lookB_eq, getB_eq, evB_eq, putB_eq, delB_eq, putAllB_eq, delAllB_eq, idB_eq, newB_eq, pickB_eq, subSB_eq, renBB_eq, xPlaces, Option.bind_eq_some_iff, Option.map_eq_some_iff] at h
    obtain ⟨ti, hti, l, hl, rfl⟩ := h
    have := xPlaces_ok hl
    simp [placesD, hti, this]
theorem xBuild_ok {t : Nat} {parts : List (Nat × D)} (h : xBuild Y.T t parts S nx = some (d, S', nx', ls, ws)) (hK : K d S' nx' ls ws) : vBuild E t parts S nx K := by
  simp only [lookB_eq, getB_eq, evB_eq, putB_eq, delB_eq, putAllB_eq, delAllB_eq, idB_eq, newB_eq, pickB_eq, subSB_eq, renBB_eq, xBuild, Option.bind_eq_some_iff] at h
  obtain ⟨ti, hti, h⟩ := h
  refine ⟨ti, hti, ?_⟩
  cases hk : ti.k <;> simp only [hk, reduceCtorEq, Option.bind_eq_some_iff, Option.map_eq_some_iff, Prod.mk.injEq] at h
  case struct fs => obtain ⟨pl, hpl, cs, hcs, rfl, rfl, rfl, rfl, rfl⟩ := h; simp only [hk]; exact ⟨pl, xPlaces_ok hpl, xFill_ok hcs hK⟩
  case array n e => obtain ⟨fe, hfe, cs, hcs, rfl, rfl, rfl, rfl, rfl⟩ := h; simp only [hk]; exact ⟨fe, hfe, xFill_ok hcs hK⟩
theorem xRow_ok {e : TypeId} {size : Nat} {es : List (List D)} (h : xRow e size es S nx = some (d, S', nx', ls, ws)) (hK : K d S' nx' ls ws) : vRow false e size es S nx K := by
  simp only [lookB_eq, getB_eq, evB_eq, putB_eq, delB_eq, putAllB_eq, delAllB_eq, idB_eq, newB_eq, pickB_eq, subSB_eq, renBB_eq, xRow, Option.some.injEq, Prod.mk.injEq] at h
  obtain ⟨rfl, rfl, rfl, rfl, rfl⟩ := h
  exact hK
theorem xFillE_ok {size : Nat} {K : List (List D) → Prop} : ∀ {parts : List (Nat × D)} {es r : List (List D)}, xFillE size parts es = some r → K r → fillE size parts es K
  | [], es, r, h, hK => by simp only [lookB_eq, getB_eq, evB_eq, putB_eq, delB_eq, putAllB_eq, delAllB_eq, idB_eq, newB_eq, pickB_eq, subSB_eq, renBB_eq, xFillE, Option.some.injEq] at h; subst h; exact hK
  | (i, d) :: ps, es, r, h, hK => by
    simp only [lookB_eq, getB_eq, evB_eq, putB_eq, delB_eq, putAllB_eq, delAllB_eq, idB_eq, newB_eq, pickB_eq, subSB_eq, renBB_eq, xFillE, Option.bind_eq_some_iff, whn_some, Bool.and_eq_true, Nat.blt_eq] at h
    obtain ⟨new, hn, ⟨h1, h2⟩, h⟩ := h
    exact ⟨new, hn, Nat.eq_of_beq_eq_true h1, h2, xFillE_ok h hK⟩
theorem xBuildSlice_ok {t len : Nat} {parts : List (Nat × D)} (h : xBuildSlice Y.T t len parts S nx = some (d, S', nx', ls, ws)) (hK : K d S' nx' ls ws) : vBuildSlice E false t len parts S nx K := by
  simp only [lookB_eq, getB_eq, evB_eq, putB_eq, delB_eq, putAllB_eq, delAllB_eq, idB_eq, newB_eq, pickB_eq, subSB_eq, renBB_eq, xBuildSlice, Option.bind_eq_some_iff] at h
  obtain ⟨ti, hti, h⟩ := h
  refine ⟨ti, hti, ?_⟩
  cases hk : ti.k <;> simp only [hk, reduceCtorEq, Option.bind_eq_some_iff, whn_some, Bool.and_eq_true, Nat.ble_eq] at h
  obtain ⟨fe, hfe, ⟨⟨h1, h2⟩, h3⟩, es, hes, h⟩ := h
  simp only [hk]
  exact ⟨fe, hfe, h1, h2, Nat.eq_of_beq_eq_true h3, xFillE_ok hes (xRow_ok h hK)⟩
theorem le_max {n : Nat} (h : n ≤ 16777216) : n ≤ maxLen := by unfold maxLen; omega
theorem xMakeSlice_ok {t : Nat} {l c : D} (h : xMakeSlice Y.T t l c S nx = some (d, S', nx', ls, ws)) (hK : K d S' nx' ls ws) : vMakeSlice E false t l c S nx K := by
  simp only [lookB_eq, getB_eq, evB_eq, putB_eq, delB_eq, putAllB_eq, delAllB_eq, idB_eq, newB_eq, pickB_eq, subSB_eq, renBB_eq, xMakeSlice, Option.bind_eq_some_iff] at h
  obtain ⟨ti, hti, n, hn, m, hm, h⟩ := h
  refine ⟨ti, hti, n, hn, m, hm, ?_⟩
  cases hk : ti.k <;> simp only [hk, reduceCtorEq, Option.bind_eq_some_iff, whn_some, Bool.and_eq_true, Nat.ble_eq, decide_eq_true_eq] at h
  obtain ⟨fe, hfe, ⟨⟨⟨⟨h1, h2⟩, h3⟩, h4⟩, h5⟩, h⟩ := h
  simp only [hk]
  exact ⟨fe, hfe, h1, h2, Nat.eq_of_beq_eq_true h3, h4, le_max h5, xRow_ok h hK⟩
theorem xSlice_ok {t : Nat} {x : D} {lo hi : Option D} (h : xSlice Y.T t x lo hi S nx = some (d, S', nx', ls, ws)) (hK : K d S' nx' ls ws) : vSlice E t x lo hi S nx K := by
  simp only [lookB_eq, getB_eq, evB_eq, putB_eq, delB_eq, putAllB_eq, delAllB_eq, idB_eq, newB_eq, pickB_eq, subSB_eq, renBB_eq, xSlice, Option.bind_eq_some_iff] at h
  obtain ⟨ti, hti, h⟩ := h
  refine ⟨ti, hti, ?_⟩
  split at h
  · rename_i l hk
    simp only [hk]
    simp only [Option.bind_eq_some_iff, whn_some, Bool.and_eq_true, decide_eq_true_eq, Option.some.injEq, Prod.mk.injEq] at h
    obtain ⟨a, ha, b, hb, ⟨⟨h1, h2⟩, h3⟩, rfl, rfl, rfl, rfl, rfl⟩ := h
    exact ⟨a, ha, b, hb, h1, h2, h3, hK⟩
  · rename_i e es sz hk
    simp only [hk]
    simp only [Option.bind_eq_some_iff, whn_some, Bool.and_eq_true, decide_eq_true_eq, Option.some.injEq, Prod.mk.injEq] at h
    obtain ⟨fe, hfe, hs, a, ha, b, hb, ⟨⟨h1, h2⟩, h3⟩, rfl, rfl, rfl, rfl, rfl⟩ := h
    exact ⟨fe, hfe, Nat.eq_of_beq_eq_true hs, a, ha, b, hb, h1, h2, h3, hK⟩
  · rename_i e l n hk
    simp only [hk]
    simp only [Option.bind_eq_some_iff, whn_some, Bool.and_eq_true, decide_eq_true_eq, Option.some.injEq, Prod.mk.injEq] at h
    obtain ⟨fe, hfe, a, ha, b, hb, ⟨⟨h1, h2⟩, h3⟩, rfl, rfl, rfl, rfl, rfl⟩ := h
    exact ⟨fe, hfe, a, ha, b, hb, h1, h2, h3, hK⟩
  · rename_i e hk
    simp only [hk]
    simp only [Option.bind_eq_some_iff, whn_some, Bool.and_eq_true, decide_eq_true_eq, Option.some.injEq, Prod.mk.injEq] at h
    obtain ⟨fe, hfe, a, ha, b, hb, ⟨h1, h2⟩, rfl, rfl, rfl, rfl, rfl⟩ := h
    exact ⟨fe, hfe, a, ha, b, hb, h1, h2, hK⟩
  · cases h
theorem xSrc_ok {size : Nat} {x : D} {es : List (List D)} {K : List (List D) → Prop} (h : xSrc size x = some es) (hK : K es) : srcD size x K := by
  unfold xSrc at h
  try simp only [lookB_eq, getB_eq, evB_eq, putB_eq, delB_eq, putAllB_eq, delAllB_eq, idB_eq, newB_eq, pickB_eq, subSB_eq, renBB_eq] at h
  split at h
  · simp only [whn_some, Bool.and_eq_true, List.all_eq_true, Option.some.injEq] at h
    obtain ⟨⟨h1, h2⟩, rfl⟩ := h
    exact ⟨Nat.eq_of_beq_eq_true h1, fun e he => List.all_eq_true.2 (h2 e he), hK⟩
  · cases h; exact hK
  · cases h
theorem xAppend_ok {t : Nat} {s x : D} (h : xAppend Y.T t s x S nx = some (d, S', nx', ls, ws)) (hK : K d S' nx' ls ws) : vAppend E t s x S nx K := by
  simp only [lookB_eq, getB_eq, evB_eq, putB_eq, delB_eq, putAllB_eq, delAllB_eq, idB_eq, newB_eq, pickB_eq, subSB_eq, renBB_eq, xAppend, Option.bind_eq_some_iff] at h
  obtain ⟨ti, hti, h⟩ := h
  refine ⟨ti, hti, ?_⟩
  cases hk : ti.k <;> simp only [hk, reduceCtorEq, Option.bind_eq_some_iff, whn_some, Bool.and_eq_true, Nat.blt_eq] at h
  obtain ⟨fe, hfe, ⟨h1, h2⟩, es2, hes, h⟩ := h
  simp only [hk]
  refine ⟨fe, hfe, h1, Nat.eq_of_beq_eq_true h2, xSrc_ok hes ?_⟩
  split at h
  · simp only [whn_some, Bool.and_eq_true, Nat.ble_eq, Option.some.injEq, Prod.mk.injEq] at h
    obtain ⟨⟨h3, h4⟩, rfl, rfl, rfl, rfl, rfl⟩ := h
    exact ⟨⟨le_max h3, h4⟩, hK⟩
  · split at h
    · rename_i l n e' sz es hl
      simp only [whn_some, Bool.and_eq_true, Nat.ble_eq, Nat.blt_eq, Option.some.injEq, Prod.mk.injEq] at h
      obtain ⟨⟨⟨⟨⟨⟨h3, h4⟩, h5⟩, h6⟩, h7⟩, h8⟩, rfl, rfl, rfl, rfl, rfl⟩ := h
      exact ⟨_, hl, Nat.eq_of_beq_eq_true h3, Nat.eq_of_beq_eq_true h4, Nat.eq_of_beq_eq_true h5, h6, ⟨le_max h7, h8⟩, hK⟩
    · cases h
  · cases h
theorem xLen_ok {t : Nat} {x : D} (h : xLen Y.T t x S nx = some (d, S', nx', ls, ws)) (hK : K d S' nx' ls ws) : vLen E t x S nx K := by
  simp only [lookB_eq, getB_eq, evB_eq, putB_eq, delB_eq, putAllB_eq, delAllB_eq, idB_eq, newB_eq, pickB_eq, subSB_eq, renBB_eq, xLen, Option.bind_eq_some_iff] at h
  obtain ⟨ti, hti, h⟩ := h
  refine ⟨ti, hti, ?_⟩
  split at h
  case h_5 l hk =>
    simp only [hk]
    split at h
    · rename_i es hl
      simp only [Option.some.injEq, Prod.mk.injEq] at h
      obtain ⟨rfl, rfl, rfl, rfl, rfl⟩ := h
      exact ⟨_, hl, hK⟩
    · cases h
  case h_7 => cases h
  all_goals
    rename_i hk
    simp only [hk]
    simp only [Option.some.injEq, Prod.mk.injEq] at h
    obtain ⟨rfl, rfl, rfl, rfl, rfl⟩ := h
    exact hK
theorem xUn_ok {op : UnOp} {x : D} (h : xUn op x S nx = some (d, S', nx', ls, ws)) (hK : K d S' nx' ls ws) : vUn op x S nx K := by
  unfold xUn at h
  try simp only [lookB_eq, getB_eq, evB_eq, putB_eq, delB_eq, putAllB_eq, delAllB_eq, idB_eq, newB_eq, pickB_eq, subSB_eq, renBB_eq] at h
  split at h
  · simp only [Option.some.injEq, Prod.mk.injEq] at h
    obtain ⟨rfl, rfl, rfl, rfl, rfl⟩ := h
    exact hK
  · simp only [Option.some.injEq, Prod.mk.injEq] at h
    obtain ⟨rfl, rfl, rfl, rfl, rfl⟩ := h
    exact hK
  · cases h
end
end Go.Abs
namespace Go.Abs
set_option linter.unusedSimpArgs false
open Go

section
variable (T : Nat → Option TI)
noncomputable def xEqCell (ty : Nat) (x y : D) : Option Bool := (T ty).bind fun ti => match x, y with
  | .v (.int k a), .v (.int k' b) => match ti.k with | .int _ => if k = k' then some (a == b) else none | _ => none
  | .s a, .s b => match ti.k with | .str => some (a == b) | _ => none
  | .v (.bool a), .v (.bool b) => match ti.k with | .bool => some (a == b) | _ => none
  | _, _ => none
noncomputable def xEqFields (xs ys : List D) : List (Nat × Nat) → Option Bool
  | [] => some true
  | (off, ty) :: r => (xs[off]?).bind fun x => (ys[off]?).bind fun y => (xEqFields xs ys r).bind fun q => (xEqCell T ty x y).map (· && q)
noncomputable def xIntBin (op : BinOp) (k : IntKind) (a b : Int) : Option D := match op with
  | .add => some (.v (.int k (k.wrap (a + b))))
  | .sub => some (.v (.int k (k.wrap (a - b))))
  | .mul => some (.v (.int k (k.wrap (a * b))))
  | .quo => whn (!(b == 0)) (some (.v (.int k (k.wrap (a.tdiv b)))))
  | .rem => whn (!(b == 0)) (some (.v (.int k (a.tmod b))))
  | .and | .or | .xor | .andNot => some (.v (.int k (bits op k a b)))
  | .eql => some (.v (.bool (a == b)))
  | .neq => some (.v (.bool (a != b)))
  | .lss => some (.v (.bool (decide (a < b))))
  | .leq => some (.v (.bool (decide (a ≤ b))))
  | .gtr => some (.v (.bool (decide (b < a))))
  | .geq => some (.v (.bool (decide (b ≤ a))))
  | _ => none
noncomputable def xStrBin (op : BinOp) (a b : List UInt8) : Option D := match op with
  | .add => whn (Nat.ble (a.length + b.length) 9223372036854775807) (some (.s (a ++ b)))
  | .eql => some (.v (.bool (a == b)))
  | .neq => some (.v (.bool (!(a == b))))
  | .lss => some (.v (.bool (Op.bytesLess a b)))
  | .leq => some (.v (.bool (Op.bytesLess a b || a == b)))
  | .gtr => some (.v (.bool (!(Op.bytesLess a b || a == b))))
  | .geq => some (.v (.bool (!(Op.bytesLess a b))))
  | _ => none
noncomputable def xBin (op : BinOp) (t : Nat) (x y : D) (S : Store) (nx : Nat) : Option XR := match x, y with
  | .v (.int k a), .v (.int k' b) => match op with
    | .shl => whn (decide (0 ≤ b)) (some (.v (.int k (k.wrap (a * 2 ^ (min b.toNat k.bits)))), S, nx, [], []))
    | .shr => whn (decide (0 ≤ b)) (some (.v (.int k (a.fdiv (2 ^ (min b.toNat k.bits)))), S, nx, [], []))
    | op => whn (decide (k = k')) ((xIntBin op k a b).map fun d => (d, S, nx, [], []))
  | .s a, .s b => (xStrBin op a b).map fun d => (d, S, nx, [], [])
  | .v (.bool a), .v (.bool b) => (T t).bind fun ti => match ti.k, op with
    | .bool, .eql => some (.v (.bool (a == b)), S, nx, [], [])
    | .bool, .neq => some (.v (.bool (!(a == b))), S, nx, [], [])
    | _, _ => none
  | .agg xs, .agg ys => (T t).bind fun ti => whn ti.eqok (match ti.k, op with
    | .struct fs, .eql => (xEqFields T xs ys fs).map fun b => (.v (.bool b), S, nx, [], [])
    | .struct fs, .neq => (xEqFields T xs ys fs).map fun b => (.v (.bool (!b)), S, nx, [], [])
    | _, _ => none)
  | _, _ => none
noncomputable def xConv (src dst : Nat) (x : D) (S : Store) (nx : Nat) : Option XR := (T src).bind fun _ => (T dst).bind fun td => match td.k, x with
  | .int k, .v (.int _ n) => some (.v (.int k (k.wrap n)), S, nx, [], [])
  | .str, .s l => some (.s l, S, nx, [], [])
  | .slice e, .s l => (T e).bind fun te => match te.k with
    | .int .u8 => whn (Nat.ble l.length 16777216) (some (.sl (l.map byteD) 1, S, nx, [], []))
    | _ => none
  | _, _ => none
noncomputable def xMax (x y : D) (S : Store) (nx : Nat) : Option XR := match x, y with
  | .v (.int k a), .v (.int k' b) => whn (decide (k = k')) (some (.v (.int k (bif decide (b > a) then b else a)), S, nx, [], []))
  | _, _ => none
noncomputable def xMakeMap (S : Store) (nx : Nat) : Option XR := some (.mp nx, putB S nx (.mp []), nx + 1, [], [nx])
noncomputable def xLook (t : Nat) (es : List (Value × D)) (key : D) (ok : Bool) : Option D := (T t).bind fun ti => match ti.k with
  | .map kt et => (T kt).bind fun tk => (T et).bind fun te => (keyV key).bind fun kv => whn (keyKind tk.k kv && es.all fun e => keyKind tk.k e.1) (some (match findM es kv with
        | some d => (bif ok then .tup [d, .v (.bool true)] else d)
        | none => (bif ok then .tup [te.zd, .v (.bool false)] else te.zd)))
  | _ => none
noncomputable def xLookup (t : Nat) (ok : Bool) (x key : D) (S : Store) (nx : Nat) : Option XR := match x with
  | .mp l => match lookB S l with
    | some (.mp es) => (xLook T t es key ok).map fun d => (d, S, nx, [l], [])
    | _ => none
  | .fmp ks ds => whn (Nat.beq ks.length ds.length) ((xLook T t (ks.zip ds) key ok).map fun d => (d, S, nx, [], []))
  | _ => none
noncomputable def xMapUpdate (t : Nat) (x key d : D) (S : Store) (nx : Nat) : Option XR := (T t).bind fun ti => match ti.k with
  | .map kt _ => (T kt).bind fun tk => (keyV key).bind fun kv => match x with
    | .mp l => match lookB S l with
      | some (.mp es) => whn (keyKind tk.k kv && es.all fun e => keyKind tk.k e.1) (some (.any, putB S l (.mp (putM es kv d)), nx, [l], [l]))
      | _ => none
    | _ => none
  | _ => none
end

section
variable {Y : Sy} {E : Env Y} {S S' : Store} {nx nx' : Nat} {ls ws : List Nat} {d : D} {K : KT}
theorem xEqCell_ok {ty : Nat} {x y : D} {b : Bool} (h : xEqCell Y.T ty x y = some b) : eqCell E ty x y = some b := by
  simp only [lookB_eq, getB_eq, evB_eq, putB_eq, delB_eq, putAllB_eq, delAllB_eq, idB_eq, newB_eq, pickB_eq, subSB_eq, renBB_eq, xEqCell, Option.bind_eq_some_iff] at h
  obtain ⟨ti, hti, h⟩ := h
  unfold eqCell
  have hti' : E.T ty = some ti := hti
  split at h <;> first | (simp only [hti']; exact h) | cases h
theorem xEqFields_ok {xs ys : List D} : ∀ {fs : List (Nat × Nat)} {b : Bool}, xEqFields Y.T xs ys fs = some b → eqFieldsD E xs ys fs = some b
  | [], b, h => h
  | (off, ty) :: r, b, h => by
    simp only [lookB_eq, getB_eq, evB_eq, putB_eq, delB_eq, putAllB_eq, delAllB_eq, idB_eq, newB_eq, pickB_eq, subSB_eq, renBB_eq, xEqFields, Option.bind_eq_some_iff, Option.map_eq_some_iff] at h
    obtain ⟨x, hx, y, hy, q, hq, c, hc, rfl⟩ := h
    simp [eqFieldsD, hx, hy, xEqFields_ok hq, xEqCell_ok (E := E) hc]
theorem xIntBin_ok {op : BinOp} {k : IntKind} {a b : Int} {K : D → Prop} (h : xIntBin op k a b = some d) (hK : K d) : intBin op k a b K := by
  cases op <;> simp only [lookB_eq, getB_eq, evB_eq, putB_eq, delB_eq, putAllB_eq, delAllB_eq, idB_eq, newB_eq, pickB_eq, subSB_eq, renBB_eq, xIntBin, whn_some, Option.some.injEq, reduceCtorEq] at h <;> first
    | (subst h; exact hK)
    | (obtain ⟨h1, rfl⟩ := h; exact ⟨by simpa using h1, hK⟩)
theorem xStrBin_ok {op : BinOp} {a b : List UInt8} {K : D → Prop} (h : xStrBin op a b = some d) (hK : K d) : strBin op a b K := by
  cases op <;> simp only [lookB_eq, getB_eq, evB_eq, putB_eq, delB_eq, putAllB_eq, delAllB_eq, idB_eq, newB_eq, pickB_eq, subSB_eq, renBB_eq, xStrBin, whn_some, Option.some.injEq, reduceCtorEq] at h <;> first
    | (subst h; exact hK)
    | (obtain ⟨h1, rfl⟩ := h; exact ⟨by simpa using h1, hK⟩)
theorem xBin_ok {op : BinOp} {t : Nat} {x y : D} (h : xBin Y.T op t x y S nx = some (d, S', nx', ls, ws)) (hK : K d S' nx' ls ws) : vBin E op t x y S nx K := by
  unfold xBin at h
  try simp only [lookB_eq, getB_eq, evB_eq, putB_eq, delB_eq, putAllB_eq, delAllB_eq, idB_eq, newB_eq, pickB_eq, subSB_eq, renBB_eq] at h
  split at h
  · rename_i k a k' b
    unfold vBin
    cases op <;> simp only [whn_some, decide_eq_true_eq, Option.map_eq_some_iff, Option.some.injEq, Prod.mk.injEq] at h ⊢ <;> first
      | (obtain ⟨h1, d', hd, rfl, rfl, rfl, rfl, rfl⟩ := h; exact ⟨h1, xIntBin_ok hd hK⟩)
      | (obtain ⟨h1, rfl, rfl, rfl, rfl, rfl⟩ := h; exact ⟨h1, hK⟩)
  · simp only [Option.map_eq_some_iff, Prod.mk.injEq] at h
    obtain ⟨d', hd, rfl, rfl, rfl, rfl, rfl⟩ := h
    exact xStrBin_ok (K := fun d => K d S nx [] []) hd hK
  · rename_i a b
    simp only [Option.bind_eq_some_iff] at h
    obtain ⟨ti, hti, h⟩ := h
    refine ⟨ti, hti, ?_⟩
    split at h
    · rename_i hk
      simp only [Option.some.injEq, Prod.mk.injEq] at h
      obtain ⟨rfl, rfl, rfl, rfl, rfl⟩ := h
      simp only [hk]; exact hK
    · rename_i hk
      simp only [Option.some.injEq, Prod.mk.injEq] at h
      obtain ⟨rfl, rfl, rfl, rfl, rfl⟩ := h
      simp only [hk]; exact hK
    · cases h
  · rename_i xs ys
    simp only [Option.bind_eq_some_iff, whn_some] at h
    obtain ⟨ti, hti, he, h⟩ := h
    refine ⟨ti, hti, he, ?_⟩
    split at h
    · rename_i fs hk
      simp only [Option.map_eq_some_iff, Prod.mk.injEq] at h
      obtain ⟨b, hb, rfl, rfl, rfl, rfl, rfl⟩ := h
      simp only [hk]; exact ⟨b, xEqFields_ok hb, hK⟩
    · rename_i fs hk
      simp only [Option.map_eq_some_iff, Prod.mk.injEq] at h
      obtain ⟨b, hb, rfl, rfl, rfl, rfl, rfl⟩ := h
      simp only [hk]; exact ⟨b, xEqFields_ok hb, hK⟩
    · cases h
  · cases h
theorem xConv_ok {src dst : Nat} {x : D} (h : xConv Y.T src dst x S nx = some (d, S', nx', ls, ws)) (hK : K d S' nx' ls ws) : vConv E src dst x S nx K := by
  simp only [lookB_eq, getB_eq, evB_eq, putB_eq, delB_eq, putAllB_eq, delAllB_eq, idB_eq, newB_eq, pickB_eq, subSB_eq, renBB_eq, xConv, Option.bind_eq_some_iff] at h
  obtain ⟨ts, hts, td, htd, h⟩ := h
  refine ⟨ts, hts, td, htd, ?_⟩
  split at h
  · rename_i hk
    simp only [Option.some.injEq, Prod.mk.injEq] at h
    obtain ⟨rfl, rfl, rfl, rfl, rfl⟩ := h
    simp only [hk]; exact hK
  · rename_i hk
    simp only [Option.some.injEq, Prod.mk.injEq] at h
    obtain ⟨rfl, rfl, rfl, rfl, rfl⟩ := h
    simp only [hk]; exact hK
  · rename_i hk
    simp only [Option.bind_eq_some_iff] at h
    obtain ⟨te, hte, h⟩ := h
    simp only [hk]
    refine ⟨te, hte, ?_⟩
    split at h
    · rename_i hk2
      simp only [whn_some, Nat.ble_eq, Option.some.injEq, Prod.mk.injEq] at h
      obtain ⟨h1, rfl, rfl, rfl, rfl, rfl⟩ := h
      simp only [hk2]; exact ⟨le_max h1, hK⟩
    · cases h
  · cases h
theorem xConv_okA {src dst : Nat} {x : D} (h : xConv Y.T src dst x S nx = some (d, S', nx', ls, ws)) (hK : K d S' nx' ls ws) : vConvA E src dst x S nx K := by
  unfold vConvA
  split
  · exfalso
    simp only [xConv, Option.bind_eq_some_iff] at h
    obtain ⟨ts, hts, td, htd, h⟩ := h
    split at h
    all_goals first
      | cases h; done
      | (rename_i heq; cases heq; done)
      | (rename_i heq _; cases heq; done)
      | (rename_i heq _ _; cases heq; done)
  · exact xConv_ok h hK
theorem xMax_ok {x y : D} (h : xMax x y S nx = some (d, S', nx', ls, ws)) (hK : K d S' nx' ls ws) : vMinMax true x y S nx K := by
  unfold xMax at h
  try simp only [lookB_eq, getB_eq, evB_eq, putB_eq, delB_eq, putAllB_eq, delAllB_eq, idB_eq, newB_eq, pickB_eq, subSB_eq, renBB_eq] at h
  split at h
  · rename_i k a k' b
    simp only [whn_some, decide_eq_true_eq, Option.some.injEq, Prod.mk.injEq] at h
    obtain ⟨h1, rfl, rfl, rfl, rfl, rfl⟩ := h
    refine ⟨h1, ?_⟩
    have e : (if true = true then (if b > a then b else a) else (if b < a then b else a)) = (bif decide (b > a) then b else a) := by
      by_cases hb : b > a <;> simp [hb]
    rw [e]; exact hK
  · cases h
theorem xMakeMap_ok (h : xMakeMap S nx = some (d, S', nx', ls, ws)) (hK : K d S' nx' ls ws) : vMakeMap S nx K := by
  simp only [lookB_eq, getB_eq, evB_eq, putB_eq, delB_eq, putAllB_eq, delAllB_eq, idB_eq, newB_eq, pickB_eq, subSB_eq, renBB_eq, xMakeMap, Option.some.injEq, Prod.mk.injEq] at h
  obtain ⟨rfl, rfl, rfl, rfl, rfl⟩ := h
  exact hK
theorem xLook_ok {t : Nat} {es : List (Value × D)} {key : D} {ok : Bool} {K : D → Prop} (h : xLook Y.T t es key ok = some d) (hK : K d) : lookupD E t es key ok K := by
  simp only [lookB_eq, getB_eq, evB_eq, putB_eq, delB_eq, putAllB_eq, delAllB_eq, idB_eq, newB_eq, pickB_eq, subSB_eq, renBB_eq, xLook, Option.bind_eq_some_iff] at h
  obtain ⟨ti, hti, h⟩ := h
  refine ⟨ti, hti, ?_⟩
  split at h
  · rename_i kt et hk
    simp only [hk]
    simp only [Option.bind_eq_some_iff, whn_some, Bool.and_eq_true, List.all_eq_true, Option.some.injEq] at h
    obtain ⟨tk, htk, te, hte, kv, hkv, ⟨h1, h2⟩, rfl⟩ := h
    exact ⟨tk, htk, te, hte, kv, hkv, h1, h2, hK⟩
  · cases h
theorem xLookup_ok {t : Nat} {ok : Bool} {x key : D} (h : xLookup Y.T t ok x key S nx = some (d, S', nx', ls, ws)) (hK : K d S' nx' ls ws) : vLookup E t ok x key S nx K := by
  unfold xLookup at h
  try simp only [lookB_eq, getB_eq, evB_eq, putB_eq, delB_eq, putAllB_eq, delAllB_eq, idB_eq, newB_eq, pickB_eq, subSB_eq, renBB_eq] at h
  split at h
  · split at h
    · rename_i es hl
      simp only [Option.map_eq_some_iff, Prod.mk.injEq] at h
      obtain ⟨d', hd, rfl, rfl, rfl, rfl, rfl⟩ := h
      exact ⟨_, hl, xLook_ok hd hK⟩
    · cases h
  · simp only [whn_some, Option.map_eq_some_iff, Prod.mk.injEq] at h
    obtain ⟨h1, d', hd, rfl, rfl, rfl, rfl, rfl⟩ := h
    exact ⟨Nat.eq_of_beq_eq_true h1, xLook_ok hd hK⟩
  · cases h
theorem xMapUpdate_ok {t : Nat} {x key y : D} (h : xMapUpdate Y.T t x key y S nx = some (d, S', nx', ls, ws)) (hK : K d S' nx' ls ws) : vMapUpdate E t x key y S nx K := by
  simp only [lookB_eq, getB_eq, evB_eq, putB_eq, delB_eq, putAllB_eq, delAllB_eq, idB_eq, newB_eq, pickB_eq, subSB_eq, renBB_eq, xMapUpdate, Option.bind_eq_some_iff] at h
  obtain ⟨ti, hti, h⟩ := h
  refine ⟨ti, hti, ?_⟩
  split at h
  · rename_i kt et hk
    simp only [hk]
    simp only [Option.bind_eq_some_iff] at h
    obtain ⟨tk, htk, kv, hkv, h⟩ := h
    refine ⟨tk, htk, kv, hkv, ?_⟩
    split at h
    · split at h
      · rename_i es hl
        simp only [whn_some, Bool.and_eq_true, List.all_eq_true, Option.some.injEq, Prod.mk.injEq] at h
        obtain ⟨⟨h1, h2⟩, rfl, rfl, rfl, rfl, rfl⟩ := h
        exact ⟨_, hl, ⟨h1, h2⟩, hK⟩
      · cases h
    · cases h
  · cases h
end

noncomputable def xBinA (T : Nat → Option TI) (op : BinOp) (t : Nat) (x y : D) (S : Store) (nx : Nat) : Option XR := match y with
  | .v (.slice none 0 0) => (T t).bind fun ti => match ti.k, op with
    | .slice _, .eql => (nilD x).map fun b => (.v (.bool b), S, nx, [], [])
    | .slice _, .neq => (nilD x).map fun b => (.v (.bool (!b)), S, nx, [], [])
    | _, _ => none
  | y => xBin T op t x y S nx
theorem xBinA_ok {Y : Sy} {E : Env Y} {S S' : Store} {nx nx' : Nat} {ls ws : List Nat} {d : D} {K : KT} {op : BinOp} {t : Nat} {x y : D} (h : xBinA Y.T op t x y S nx = some (d, S', nx', ls, ws)) (hK : K d S' nx' ls ws) : vBinA E op t x y S nx K := by
  unfold xBinA at h
  unfold vBinA
  split at h
  · simp only [Option.bind_eq_some_iff] at h
    obtain ⟨ti, hti, h⟩ := h
    refine ⟨ti, hti, ?_⟩
    split at h
    · rename_i e hk
      simp only [Option.map_eq_some_iff, Prod.mk.injEq] at h
      obtain ⟨b, hb, rfl, rfl, rfl, rfl, rfl⟩ := h
      simp only [hk]
      exact ⟨b, hb, hK⟩
    · rename_i e hk
      simp only [Option.map_eq_some_iff, Prod.mk.injEq] at h
      obtain ⟨b, hb, rfl, rfl, rfl, rfl, rfl⟩ := h
      simp only [hk]
      exact ⟨b, hb, hK⟩
    · cases h
  · rename_i hne
    split
    · exact (hne rfl).elim
    · exact xBin_ok h hK
noncomputable def xRange (T : Nat → Option TI) (t : Nat) (x : D) (S : Store) (nx : Nat) : Option XR := (T t).bind fun ti => match ti.k, x with
  | .str, .s l => some (.it nx, putB S nx (.si l 0), nx + 1, [], [nx])
  | _, _ => none
theorem xRange_ok {Y : Sy} {E : Env Y} {S S' : Store} {nx nx' : Nat} {ls ws : List Nat} {d : D} {K : KT} {t : Nat} {x : D} (h : xRange Y.T t x S nx = some (d, S', nx', ls, ws)) (hK : K d S' nx' ls ws) : vRange E t x S nx K := by
  simp only [putB_eq, xRange, Option.bind_eq_some_iff] at h
  obtain ⟨ti, hti, h⟩ := h
  refine ⟨ti, hti, ?_⟩
  split at h
  · rename_i l hk
    simp only [hk]
    simp only [Option.some.injEq, Prod.mk.injEq] at h
    obtain ⟨rfl, rfl, rfl, rfl, rfl⟩ := h
    exact hK
  · cases h
noncomputable def xNext (x : D) (S : Store) (nx : Nat) : Option XR := match x with
  | .it l => match lookB S l with
    | some (.si s pos) => match Nat.blt pos s.length with
      | true => match Utf8.decode ⟨⟨s⟩⟩ pos with
        | (c, wd) => some (.tup [.v (.bool true), .v (.int .i64 pos), .v (.int .i32 c)], putB S l (.si s (pos + wd)), nx, [l], [l])
      | false => some (.tup [.v (.bool false)], S, nx, [l], [])
    | _ => none
  | _ => none
theorem xNext_ok {S S' : Store} {nx nx' : Nat} {ls ws : List Nat} {d : D} {K : KT} {x : D} (h : xNext x S nx = some (d, S', nx', ls, ws)) (hK : K d S' nx' ls ws) : vNext x S nx K := by
  unfold xNext at h
  simp only [putB_eq, lookB_eq] at h
  split at h
  · split at h
    · rename_i l s pos hl
      refine ⟨_, hl, ?_⟩
      split at h
      · rename_i hlt
        simp only [Option.some.injEq, Prod.mk.injEq] at h
        obtain ⟨rfl, rfl, rfl, rfl, rfl⟩ := h
        simp only [Nat.blt_eq] at hlt
        exact ⟨fun _ => hK, fun h => absurd hlt h⟩
      · rename_i hlt
        simp only [Option.some.injEq, Prod.mk.injEq] at h
        obtain ⟨rfl, rfl, rfl, rfl, rfl⟩ := h
        have hlt' : ¬ pos < s.length := by
          intro h; have : Nat.blt pos s.length = true := by simpa using h
          rw [this] at hlt; cases hlt
        exact ⟨fun h => absurd h hlt', fun _ => hK⟩
    · cases h
  · cases h
noncomputable def xAppendO (T : Nat → Option TI) (t : Nat) (s : D) (l2 n2 : Nat) (S : Store) (nx : Nat) : Option XR := (T t).bind fun ti => match ti.k with
  | .slice e => (T e).bind fun fe => whn (Nat.blt 0 fe.size && Nat.beq fe.zero.length fe.size) (match lookB S l2 with
    | some (.row e2 sz2 es2) => whn (Nat.beq sz2 fe.size && Nat.beq n2 es2.length && (es2.all fun u => u.all oneD) && Nat.blt l2 nx) (match s with
      | .v (.slice none 0 0) => whn (Nat.ble es2.length 16777216 && Nat.ble (es2.length * fe.bytes) 140737488355328) (some (.own nx es2.length, putAllB (delAllB S [l2]) [(nx, .row e fe.size es2), (l2, .row e2 sz2 es2)], nx + 1, [l2], [nx, l2, l2]))
      | .own l n => match lookB S l with
        | some (.row e' sz es) => whn (Nat.beq e' e && Nat.beq sz fe.size && Nat.beq n es.length && Nat.blt l nx && !Nat.beq l l2 && Nat.ble (es.length + es2.length) 16777216 && Nat.ble ((es.length + es2.length) * fe.bytes) 140737488355328)
            (some (.own nx (es.length + es2.length), putAllB (delAllB S [l, l2]) [(nx, .row e sz (es ++ es2)), (l2, .row e2 sz2 es2)], nx + 1, [l, l2], [nx, l2, l, l2]))
        | _ => none
      | _ => none)
    | _ => none)
  | _ => none
theorem xAppendO_ok {Y : Sy} {E : Env Y} {S S' : Store} {nx nx' : Nat} {ls ws : List Nat} {d : D} {K : KT} {t l2 n2 : Nat} {s : D} (h : xAppendO Y.T t s l2 n2 S nx = some (d, S', nx', ls, ws)) (hK : K d S' nx' ls ws) : vAppendO E t s l2 n2 S nx K := by
  simp only [lookB_eq, putAllB_eq, delAllB_eq, xAppendO, Option.bind_eq_some_iff] at h
  obtain ⟨ti, hti, h⟩ := h
  refine ⟨ti, hti, ?_⟩
  cases hk : ti.k <;> simp only [hk, reduceCtorEq, Option.bind_eq_some_iff, whn_some, Bool.and_eq_true, Nat.blt_eq] at h
  obtain ⟨fe, hfe, ⟨h1, h2⟩, h⟩ := h
  simp only [hk]
  refine ⟨fe, hfe, h1, Nat.eq_of_beq_eq_true h2, ?_⟩
  split at h
  · rename_i e2 sz2 es2 hl2
    simp only [whn_some, Bool.and_eq_true, Nat.blt_eq, List.all_eq_true] at h
    obtain ⟨⟨⟨⟨a1, a2⟩, a3⟩, a4⟩, h⟩ := h
    refine ⟨_, hl2, Nat.eq_of_beq_eq_true a1, Nat.eq_of_beq_eq_true a2, fun u hu => List.all_eq_true.2 (a3 u hu), a4, ?_⟩
    split at h
    · simp only [whn_some, Bool.and_eq_true, Nat.ble_eq, Option.some.injEq, Prod.mk.injEq] at h
      obtain ⟨⟨h3, h4⟩, rfl, rfl, rfl, rfl, rfl⟩ := h
      exact ⟨⟨le_max h3, h4⟩, hK⟩
    · split at h
      · rename_i l n e' sz es hl
        simp only [whn_some, Bool.and_eq_true, Nat.ble_eq, Nat.blt_eq, Option.some.injEq, Prod.mk.injEq, Bool.not_eq_true'] at h
        obtain ⟨⟨⟨⟨⟨⟨⟨h3, h4⟩, h5⟩, h6⟩, hne⟩, h7⟩, h8⟩, rfl, rfl, rfl, rfl, rfl⟩ := h
        exact ⟨_, hl, Nat.eq_of_beq_eq_true h3, Nat.eq_of_beq_eq_true h4, Nat.eq_of_beq_eq_true h5, h6, (by rintro rfl; simp at hne), ⟨le_max h7, h8⟩, hK⟩
      · cases h
    · cases h
  · cases h

/-! ### One operation, the calls left to 'call' and 'yl' -/
abbrev XC := D × Store × Store × Nat
noncomputable def xCalled (S : Store) : XC → XR := fun (d, pre, post, nx') => (d, putAllB (delAllB S (namesL pre)) post, nx', namesL pre, namesL post ++ namesL pre)
noncomputable def xop (T : Nat → Option TI) (call : Nat → List D → Store → Nat → Option XC) (yl : Nat → List D → Store → Nat → Option XC) (ev : Operand → D) (op : Op) (S : Store) (nx : Nat) : Option XR := match op with
  | .move x => xMove (ev x) S nx
  | .assign x => xMove (ev x) S nx
  | .pick c x y => xPick (ev c) (ev x) (ev y) S nx
  | .nilCheck x => xNil (ev x) S nx
  | .extract x i => xExtract (ev x) i S nx
  | .makeFunc f fi ca => some (.fn f (fi.toList.map ev) (ca.toList.map ev), S, nx, [], [])
  | .box _ x => xBox (ev x) S nx
  | .alloc t => xAlloc T t S nx
  | .fieldAddr t x f => xFieldAddr T t (ev x) f S nx
  | .field t x f => xField T t (ev x) f S nx
  | .indexAddr t x i => xIndexAddr T t (ev x) (ev i) S nx
  | .index t x i => xIndex T t (ev x) (ev i) S nx
  | .load t x => xLoad T t (ev x) S nx
  | .store t x v => xStore T t (ev x) (ev v) S nx
  | .build t parts => xBuild T t (partsD parts.toList ev) S nx
  | .buildSlice t len parts => xBuildSlice T t len (partsD parts.toList ev) S nx
  | .makeSlice t l c => xMakeSlice T t (ev l) (ev c) S nx
  | .slice t x lo hi none => xSlice T t (ev x) (lo.map ev) (hi.map ev) S nx
  | .unOp op _ x => xUn op (ev x) S nx
  | .binOp op t x y _ => xBinA T op t (ev x) (ev y) S nx
  | .convert src dst x => xConv T src dst (ev x) S nx
  | .makeMap _ none => xMakeMap S nx
  | .lookup t x key ok => xLookup T t ok (ev x) (ev key) S nx
  | .mapUpdate t x key y => xMapUpdate T t (ev x) (ev key) (ev y) S nx
  | .insert t x key y => xMapUpdate T t (ev x) (ev key) (ev y) S nx
  | .call c => match c.callee with
    | .value f => match ev f with
      | .yl l => (yl l (c.args.toList.map ev) S nx).map (xCalled S)
      | g => (vCallee g (c.args.toList.map ev)).bind fun p => (call p.1 p.2 S nx).map (xCalled S)
    | .builtin b => match b, c.args.toList.map ev, c.argTypes.toList with
      | .len, [x], [t] => xLen T t x S nx
      | .append, [s, x], [t, t2] => whn (Nat.beq t2 t) (match x with
        | .own l2 n2 => xAppendO T t s l2 n2 S nx
        | x => xAppend T t s x S nx)
      | .max, [x, y], _ => xMax x y S nx
      | _, _, _ => none
    | _ => none
  | .range t x => xRange T t (ev x) S nx
  | .next x true => xNext (ev x) S nx
  | _ => none
def CallOK (Y : Sy) (call : Nat → List D → Store → Nat → Option XC) : Prop := ∀ k args S nx d pre post nx', call k args S nx = some (d, pre, post, nx') → FnOK Y k args pre d post ∧ Touch S nx pre post nx' ∨ ExtOK Y k args d ∧ pre = [] ∧ post = [] ∧ nx' = nx
def YlOK (Y : Sy) (yl : Nat → List D → Store → Nat → Option XC) : Prop := ∀ l args S nx d pre post nx', yl l args S nx = some (d, pre, post, nx') → RdOK Y l args pre d post ∧ Touch S nx pre post nx'

theorem xop_ok {Y : Sy} {E : Env Y} {call : Nat → List D → Store → Nat → Option XC} {yl : Nat → List D → Store → Nat → Option XC} (hc : CallOK Y call) (hy : YlOK Y yl) {σ : List (Nat × D)} {op : Op} {S S' : Store} {nx nx' : Nat} {d : D} {ls ws : List Nat} {K : KT}
    (h : xop Y.T call yl (evD E.gl σ) op S nx = some (d, S', nx', ls, ws)) (hK : K d S' nx' ls ws) : vop E false σ op S nx K := by
  unfold xop at h
  unfold vop
  split at h
  case h_1 => exact xMove_ok h hK
  case h_2 => exact xMove_ok h hK
  case h_3 => exact xPick_ok h hK
  case h_4 => exact xNil_ok h hK
  case h_5 => exact xExtract_ok h hK
  case h_6 =>
    simp only [Option.some.injEq, Prod.mk.injEq] at h
    obtain ⟨rfl, rfl, rfl, rfl, rfl⟩ := h
    exact hK
  case h_7 => exact xBox_ok h hK
  case h_8 => exact xAlloc_ok h hK
  case h_9 => exact xFieldAddr_ok h hK
  case h_10 => exact xField_ok h hK
  case h_11 => exact xIndexAddr_ok h hK
  case h_12 => exact xIndex_ok h hK
  case h_13 => exact xLoad_ok h hK
  case h_14 => exact xStore_ok h hK
  case h_15 => exact xBuild_ok h hK
  case h_16 => exact xBuildSlice_ok h hK
  case h_17 => exact xMakeSlice_ok h hK
  case h_18 => exact xSlice_ok h hK
  case h_19 => exact xUn_ok h hK
  case h_20 => exact xBinA_ok h hK
  case h_21 => exact xConv_okA h hK
  case h_22 => exact xMakeMap_ok h hK
  case h_23 => exact xLookup_ok h hK
  case h_24 => exact xMapUpdate_ok h hK
  case h_25 => exact xMapUpdate_ok h hK
  case h_26 c =>
    have fin : ∀ {r : Option XC}, r.map (xCalled S) = some (d, S', nx', ls, ws) → ∃ pre post, r = some (d, pre, post, nx') ∧ K d (putAll (delAll S (namesL pre)) post) nx' (namesL pre) (namesL post ++ namesL pre) := by
      intro r h
      simp only [Option.map_eq_some_iff] at h
      obtain ⟨⟨d', pre, post, n'⟩, hr, h⟩ := h
      simp only [lookB_eq, getB_eq, evB_eq, putB_eq, delB_eq, putAllB_eq, delAllB_eq, idB_eq, newB_eq, pickB_eq, subSB_eq, renBB_eq, xCalled, Prod.mk.injEq] at h
      obtain ⟨rfl, rfl, rfl, rfl, rfl⟩ := h
      exact ⟨pre, post, hr, hK⟩
    split at h
    · rename_i f hcal
      simp only [hcal]
      split at h
      · rename_i l hev
        obtain ⟨pre, post, hr, hK'⟩ := fin h
        obtain ⟨h1, h2⟩ := hy _ _ _ _ _ _ _ _ hr
        rw [hev]
        exact .touch pre d post nx' h1 h2 hK'
      · rename_i hne
        simp only [Option.bind_eq_some_iff] at h
        obtain ⟨p, hp, h⟩ := h
        obtain ⟨pre, post, hr, hK'⟩ := fin h
        unfold vCall
        split
        · rename_i l hev; exact absurd hev (hne l)
        · rcases hc _ _ _ _ _ _ _ _ hr with ⟨h1, h2⟩ | ⟨h1, rfl, rfl, rfl⟩
          · exact ⟨p, hp, .touch pre d post nx' h1 h2 hK'⟩
          · exact ⟨p, hp, .ext d h1 hK'⟩
    · rename_i b hcal
      simp only [hcal]
      split at h
      · rename_i x t h1 h2
        simp only [vBuiltin, h1, h2]
        exact xLen_ok h hK
      · rename_i s x t t2 h1 h2
        simp only [whn_some] at h
        simp only [vBuiltin, h1, h2]
        refine ⟨Nat.eq_of_beq_eq_true h.1, ?_⟩
        unfold vAppendA
        split
        · exact xAppendO_ok h.2 hK
        · rename_i hne
          have h2 := h.2
          split at h2
          · rename_i l2 n2; exact absurd rfl (hne l2 n2)
          · exact xAppend_ok h2 hK
      · rename_i x y h1
        simp only [vBuiltin, h1]
        exact xMax_ok h hK
      · cases h
    · cases h
  case h_27 => exact xRange_ok h hK
  case h_28 => exact xNext_ok h hK
  case h_29 => cases h
end Go.Abs
