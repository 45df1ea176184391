/- An abstract walk over the model: what a function does, as a computation on described values; proved once for all functions. -/
import Derived.WalkKit
import Derived.OrdersIn
import Derived.RangeFuncIn
import Derived.Maps.AppendAt
set_option linter.unusedVariables false
set_option linter.unusedSimpArgs false
namespace Go.Abs
open Go

/-- Abstract data: what is known of a Go value. -/
inductive D where
  | any
  | v (x : Value)
  | s (l : List UInt8)
  | sl (elems : List (List D)) (size : Nat)
  | ep (cells : List D)
  | ref (l off : Nat)
  | oel (l size i j : Nat)
  | own (l n : Nat)
  | mp (l : Nat)
  | it (l : Nat)
  | yl (l : Nat)
  | fmp (keys : List Value) (vals : List D)
  | fn (f : Fn) (first captured : List D)
  | agg (cells : List D)
  | tup (vals : List D)

structure G where
  Z : Nat → Prop
  φ : Nat → Option (Option Nat × Nat)

/-- The ghost without its names. -/
def G.cl (g : G) : G := ⟨g.Z, fun _ => none⟩

def cellsAt (w : World) (ad : Addr) (vs : List Value) : Prop := ∀ j u, vs[j]? = some u → w.cell? (ad.add j) = some u

mutual
def Rep (w : World) (g : G) : Value → D → Prop
  | _, .any => True
  | x, .v y => x = y
  | x, .s l => x = .string ⟨⟨l⟩⟩
  | x, .sl es size => ∃ a c, x = .slice a es.length c ∧ es.length ≤ c ∧ c ≤ maxLen ∧ (∀ e ∈ es, e.length = size) ∧ (es ≠ [] → ∃ ad, a = some ad ∧ g.Z ad.block ∧ RepE w g.cl ad size 0 es)
  | x, .ep cs => ∃ ad vs, x = .pointer (some ad) ∧ g.Z ad.block ∧ cellsAt w ad vs ∧ RepL w g.cl vs cs
  | x, .ref l off => ∃ b c, g.φ l = some (some b, c) ∧ x = .pointer (some ⟨b, off, none⟩)
  | x, .oel l size i j => ∃ b c, g.φ l = some (some b, c) ∧ x = .pointer (some ⟨b, i * size + j, none⟩)
  | x, .own l n => (∃ b c, g.φ l = some (some b, c) ∧ n ≤ c ∧ x = .slice (some ⟨b, 0, none⟩) n c) ∨ (g.φ l = some (none, 0) ∧ n = 0 ∧ x = .slice none 0 0)
  | x, .mp l => ∃ b c, g.φ l = some (some b, c) ∧ x = .map (some b)
  | x, .it l => ∃ b c, g.φ l = some (some b, c) ∧ x = .pointer (some ⟨b, 0, none⟩)
  | x, .yl l => ∃ b c, g.φ l = some (some b, c) ∧ x = .func (.yield b) #[] #[]
  | x, .fmp ks ds => ∃ b arr clock, x = .map (some b) ∧ g.Z b ∧ w.heap[b]? = some (.map arr clock) ∧ arr.toList.map (·.key) = ks ∧ RepL w g.cl (arr.toList.map (·.val)) ds ∧
      (∀ e ∈ arr.toList, e.born < clock) ∧ (arr.toList.map (·.born)).Nodup
  | x, .fn f fi ca => ∃ v1 v2 : List Value, x = .func f v1.toArray v2.toArray ∧ RepL w g v1 fi ∧ RepL w g v2 ca
  | x, .agg cs => ∃ vs : List Value, x = .agg vs.toArray ∧ RepL w g vs cs
  | x, .tup cs => ∃ vs : List Value, x = .tuple vs.toArray ∧ RepL w g vs cs
def RepL (w : World) (g : G) : List Value → List D → Prop
  | [], [] => True
  | x :: xs, d :: ds => Rep w g x d ∧ RepL w g xs ds
  | _, _ => False
def RepE (w : World) (g : G) (ad : Addr) (size : Nat) : Nat → List (List D) → Prop
  | _, [] => True
  | k, e :: r => (∃ vs, cellsAt w (ad.add (k * size)) vs ∧ RepL w g vs e) ∧ RepE w g ad size (k + 1) r
end

theorem RepL.nil_iff {w : World} {g : G} {xs : List Value} : RepL w g xs [] ↔ xs = [] := by
  cases xs <;> simp [RepL]
theorem RepL.cons_iff {w : World} {g : G} {xs : List Value} {d : D} {ds : List D} :
    RepL w g xs (d :: ds) ↔ ∃ x r, xs = x :: r ∧ Rep w g x d ∧ RepL w g r ds := by
  cases xs with
  | nil => simp [RepL]
  | cons x r =>
    simp only [RepL]
    exact ⟨fun h => ⟨x, r, rfl, h.1, h.2⟩, fun ⟨x', r', e, h1, h2⟩ => by cases e; exact ⟨h1, h2⟩⟩

section
variable {w : World} {g : G}
theorem RepL.length : ∀ {xs : List Value} {ds : List D}, RepL w g xs ds → xs.length = ds.length
  | [], [], _ => rfl
  | [], _ :: _, h => by simp [RepL] at h
  | _ :: _, [], h => by simp [RepL] at h
  | x :: xs, d :: ds, h => by simp only [RepL] at h; simp [RepL.length h.2]
theorem RepL.get : ∀ {xs : List Value} {ds : List D}, RepL w g xs ds → ∀ {i : Nat} {d : D}, ds[i]? = some d → ∃ x, xs[i]? = some x ∧ Rep w g x d
  | [], [], _, i, d, hi => by simp at hi
  | [], _ :: _, h, _, _, _ => by simp [RepL] at h
  | _ :: _, [], h, _, _, _ => by simp [RepL] at h
  | x :: xs, d :: ds, h, i, d', hi => by
    simp only [RepL] at h
    cases i with
    | zero => simp at hi; subst hi; exact ⟨x, rfl, h.1⟩
    | succ i => simpa using RepL.get h.2 (by simpa using hi)
theorem RepL.get' : ∀ {xs : List Value} {ds : List D}, RepL w g xs ds → ∀ {i : Nat} {x : Value}, xs[i]? = some x → ∃ d, ds[i]? = some d ∧ Rep w g x d
  | [], [], _, i, d, hi => by simp at hi
  | [], _ :: _, h, _, _, _ => by simp [RepL] at h
  | _ :: _, [], h, _, _, _ => by simp [RepL] at h
  | x :: xs, d :: ds, h, i, x', hi => by
    simp only [RepL] at h
    cases i with
    | zero => simp at hi; subst hi; exact ⟨d, rfl, h.1⟩
    | succ i => simpa using RepL.get' h.2 (by simpa using hi)
theorem RepL.append : ∀ {xs ys : List Value} {ds es : List D}, RepL w g xs ds → RepL w g ys es → RepL w g (xs ++ ys) (ds ++ es)
  | [], _, [], _, _, h2 => h2
  | [], _, _ :: _, _, h, _ => by simp [RepL] at h
  | _ :: _, _, [], _, h, _ => by simp [RepL] at h
  | x :: xs, ys, d :: ds, es, h, h2 => by
    simp only [RepL] at h
    simp only [List.cons_append, RepL]
    exact ⟨h.1, RepL.append h.2 h2⟩
theorem RepL.take : ∀ {xs : List Value} {ds : List D} (k : Nat), RepL w g xs ds → RepL w g (xs.take k) (ds.take k)
  | _, _, 0, _ => by simp [RepL]
  | [], [], k + 1, _ => by simp [RepL]
  | [], _ :: _, _, h => by simp [RepL] at h
  | _ :: _, [], _, h => by simp [RepL] at h
  | x :: xs, d :: ds, k + 1, h => by
    simp only [RepL] at h
    simp only [List.take_succ_cons, RepL]
    exact ⟨h.1, RepL.take k h.2⟩
theorem RepL.drop : ∀ {xs : List Value} {ds : List D} (k : Nat), RepL w g xs ds → RepL w g (xs.drop k) (ds.drop k)
  | _, _, 0, h => by simpa using h
  | [], [], k + 1, _ => by simp [RepL]
  | [], _ :: _, _, h => by simp [RepL] at h
  | _ :: _, [], _, h => by simp [RepL] at h
  | x :: xs, d :: ds, k + 1, h => by
    simp only [RepL] at h
    simp only [List.drop_succ_cons]
    exact RepL.drop k h.2
theorem RepL.split : ∀ {xs : List Value} {ds es : List D}, RepL w g xs (ds ++ es) → ∃ x1 x2, xs = x1 ++ x2 ∧ RepL w g x1 ds ∧ RepL w g x2 es
  | xs, [], es, h => ⟨[], xs, rfl, by simp [RepL], h⟩
  | [], _ :: _, _, h => by simp [RepL] at h
  | x :: xs, d :: ds, es, h => by
    simp only [List.cons_append, RepL] at h
    obtain ⟨x1, x2, rfl, h1, h2⟩ := RepL.split h.2
    exact ⟨x :: x1, x2, rfl, by simp only [RepL]; exact ⟨h.1, h1⟩, h2⟩
theorem RepL.set : ∀ {xs : List Value} {ds : List D} (k : Nat) {x : Value} {d : D}, RepL w g xs ds → Rep w g x d → RepL w g (xs.set k x) (ds.set k d)
  | [], [], _, _, _, _, _ => by simp [RepL]
  | [], _ :: _, _, _, _, h, _ => by simp [RepL] at h
  | _ :: _, [], _, _, _, h, _ => by simp [RepL] at h
  | x :: xs, d :: ds, 0, _, _, h, h' => by
    simp only [RepL] at h
    simp only [List.set_cons_zero, RepL]
    exact ⟨h', h.2⟩
  | x :: xs, d :: ds, k + 1, _, _, h, h' => by
    simp only [RepL] at h
    simp only [List.set_cons_succ, RepL]
    exact ⟨h.1, RepL.set k h.2 h'⟩
theorem RepL.of_v (xs : List Value) : RepL w g xs (xs.map .v) := by
  induction xs with
  | nil => simp [RepL]
  | cons x xs ih => simp only [List.map_cons, RepL, Rep]; exact ⟨trivial, ih⟩
theorem RepL.eq_v : ∀ {xs ys : List Value}, RepL w g xs (ys.map .v) → xs = ys
  | [], [], _ => rfl
  | [], _ :: _, h => by simp [RepL] at h
  | _ :: _, [], h => by simp [RepL] at h
  | x :: xs, y :: ys, h => by
    simp only [List.map_cons, RepL, Rep] at h
    rw [h.1, RepL.eq_v h.2]
end

theorem add_add (a : Addr) (i j : Nat) : (a.add i).add j = a.add (i + j) := by
  unfold Addr.add
  by_cases hi : i = 0 <;> by_cases hj : j = 0 <;> simp [hi, hj, Nat.add_assoc]
theorem add_block (a : Addr) (n : Nat) : (a.add n).block = a.block := by unfold Addr.add; split <;> rfl
theorem add_zero (a : Addr) : a.add 0 = a := by simp [Addr.add]
theorem cellsAt.drop {w : World} {ad : Addr} {vs : List Value} (h : cellsAt w ad vs) (k : Nat) : cellsAt w (ad.add k) (vs.drop k) := by
  intro j u hu
  rw [add_add]
  exact h _ _ (by rw [← hu, List.getElem?_drop])
theorem cellsAt.take {w : World} {ad : Addr} {vs : List Value} (h : cellsAt w ad vs) (k : Nat) : cellsAt w ad (vs.take k) := by
  intro j u hu
  refine h _ _ ?_
  rw [List.getElem?_take] at hu
  split at hu
  · exact hu
  · cases hu

/-- How the world and the ghost move on; 'own' may change. -/
structure Tr (own : Nat → Prop) (w : World) (g : G) (w' : World) (g' : G) : Prop where
  os : w'.os = w.os
  tape : w'.tape = w.tape
  output : w'.output = w.output
  size : w.heap.size ≤ w'.heap.size
  keep : ∀ b, b < w.heap.size → ¬ own b → w'.heap[b]? = w.heap[b]?
  zmono : ∀ b, g.Z b → g'.Z b
  znew : ∀ b, g'.Z b → b < w.heap.size → ¬ own b → g.Z b
  fmono : ∀ l p, g.φ l = some p → g'.φ l = some p
  fnew : ∀ l b c, g'.φ l = some (some b, c) → g.φ l = none → w.heap.size ≤ b ∨ own b

structure WF (w : World) (g : G) : Prop where
  zlt : ∀ b, g.Z b → b < w.heap.size
  flt : ∀ l b c, g.φ l = some (some b, c) → b < w.heap.size

theorem Tr.refl (own : Nat → Prop) (w : World) (g : G) : Tr own w g w g :=
  ⟨rfl, rfl, rfl, Nat.le_refl _, fun _ _ _ => rfl, fun _ h => h, fun _ h _ _ => h, fun _ _ h => h, fun _ _ _ h h' => by rw [h] at h'; cases h'⟩
theorem Tr.mono {own own' : Nat → Prop} {w w' : World} {g g' : G} (h : Tr own w g w' g') (ho : ∀ b, own b → own' b) : Tr own' w g w' g' :=
  ⟨h.os, h.tape, h.output, h.size, fun b hb hn => h.keep b hb (fun h => hn (ho b h)), h.zmono, fun b hz hb hn => h.znew b hz hb (fun h => hn (ho b h)), h.fmono,
    fun l b c h1 h2 => (h.fnew l b c h1 h2).imp id (ho _)⟩
/-- Two moves; what the second may change lies in what the first may, or is new. -/
theorem Tr.trans {own own' : Nat → Prop} {w w' w'' : World} {g g' g'' : G} (h : Tr own w g w' g') (h' : Tr own' w' g' w'' g'')
    (ho : ∀ b, b < w.heap.size → own' b → own b) : Tr own w g w'' g'' where
  os := h'.os.trans h.os
  tape := h'.tape.trans h.tape
  output := h'.output.trans h.output
  size := Nat.le_trans h.size h'.size
  keep b hb hn := (h'.keep b (Nat.lt_of_lt_of_le hb h.size) (fun h1 => hn (ho b hb h1))).trans (h.keep b hb hn)
  zmono b hz := h'.zmono b (h.zmono b hz)
  znew b hz hb hn := h.znew b (h'.znew b hz (Nat.lt_of_lt_of_le hb h.size) (fun h1 => hn (ho b hb h1))) hb hn
  fmono l p hp := h'.fmono l p (h.fmono l p hp)
  fnew l b c hp hn := by
    cases hq : g'.φ l with
    | some q =>
      have := h'.fmono l q hq
      rw [hp] at this
      cases this
      exact h.fnew l b c hq hn
    | none =>
      rcases h'.fnew l b c hp hq with h1 | h1
      · exact .inl (Nat.le_trans h.size h1)
      · by_cases hlt : b < w.heap.size
        · exact .inr (ho _ hlt h1)
        · exact .inl (by omega)

theorem Tr.cl {own : Nat → Prop} {w w' : World} {g g' : G} (h : Tr own w g w' g') : Tr own w g.cl w' g'.cl :=
  ⟨h.os, h.tape, h.output, h.size, h.keep, h.zmono, h.znew, fun _ _ h => h, fun _ _ _ h => by simp [G.cl] at h⟩
theorem WF.cl {w : World} {g : G} (h : WF w g) : WF w g.cl := ⟨h.zlt, fun _ _ _ h => by simp [G.cl] at h⟩

theorem cellsAt.same {w w' : World} {ad : Addr} {vs : List Value} (hb : w'.heap[ad.block]? = w.heap[ad.block]?) (hc : cellsAt w ad vs) : cellsAt w' ad vs := by
  intro j u hu
  rw [← hc j u hu]
  refine World.cell?_of_block ?_
  rw [add_block]
  exact hb
theorem cellsAt.tr {own : Nat → Prop} {w w' : World} {g g' : G} (h : Tr own w g w' g') (hw : WF w g) (ho : ∀ b, g.Z b → ¬ own b) {ad : Addr} {vs : List Value}
    (hz : g.Z ad.block) (hc : cellsAt w ad vs) : cellsAt w' ad vs := hc.same (h.keep _ (hw.zlt _ hz) (ho _ hz))
theorem RepE.get {w : World} {g : G} {ad : Addr} {size : Nat} : ∀ {es : List (List D)} {k : Nat}, RepE w g ad size k es → ∀ {i : Nat} {e : List D}, es[i]? = some e → ∃ vs, cellsAt w (ad.add ((k + i) * size)) vs ∧ RepL w g vs e
  | [], _, _, i, e, hi => by simp at hi
  | e0 :: r, k, h, i, e, hi => by
    simp only [RepE] at h
    cases i with
    | zero => simp at hi; subst hi; exact h.1
    | succ i =>
      have := RepE.get h.2 (i := i) (e := e) (by simpa using hi)
      rwa [show k + 1 + i = k + (i + 1) by omega] at this
theorem RepE.of_get {w : World} {g : G} {ad : Addr} {size : Nat} : ∀ {es : List (List D)} {k : Nat}, (∀ i e, es[i]? = some e → ∃ vs, cellsAt w (ad.add ((k + i) * size)) vs ∧ RepL w g vs e) → RepE w g ad size k es
  | [], _, _ => by simp [RepE]
  | e0 :: r, k, h => by
    simp only [RepE]
    refine ⟨h 0 e0 rfl, RepE.of_get fun i e hi => ?_⟩
    have := h (i + 1) e (by simpa using hi)
    rwa [show k + (i + 1) = k + 1 + i by omega] at this

mutual
theorem Rep.tr {own : Nat → Prop} {w w' : World} {g g' : G} (h : Tr own w g w' g') (hw : WF w g) (ho : ∀ b, g.Z b → ¬ own b) :
    ∀ {x : Value} {d : D}, Rep w g x d → Rep w' g' x d
  | _, .any, _ => by simp [Rep]
  | _, .v _, hx => by simpa [Rep] using hx
  | _, .s _, hx => by simpa [Rep] using hx
  | _, .sl _ _, hx => by
    simp only [Rep] at hx ⊢
    obtain ⟨a, c, rfl, h1, h2, h3, h4⟩ := hx
    refine ⟨a, c, rfl, h1, h2, h3, fun hn => ?_⟩
    obtain ⟨ad, rfl, hz, hc⟩ := h4 hn
    exact ⟨ad, rfl, h.zmono _ hz, RepE.tr h.cl hw.cl ho (h.keep _ (hw.zlt _ hz) (ho _ hz)) hc⟩
  | _, .ep _, hx => by
    simp only [Rep] at hx ⊢
    obtain ⟨ad, vs, rfl, hz, hc, h5⟩ := hx
    exact ⟨ad, vs, rfl, h.zmono _ hz, hc.tr h hw ho hz, RepL.tr h.cl hw.cl ho h5⟩
  | _, .ref _ _, hx => by
    simp only [Rep] at hx ⊢
    obtain ⟨b, c, hp, rfl⟩ := hx
    exact ⟨b, c, h.fmono _ _ hp, rfl⟩
  | _, .oel _ _ _ _, hx => by
    simp only [Rep] at hx ⊢
    obtain ⟨b, c, hp, rfl⟩ := hx
    exact ⟨b, c, h.fmono _ _ hp, rfl⟩
  | _, .mp _, hx => by
    simp only [Rep] at hx ⊢
    obtain ⟨b, c, hp, rfl⟩ := hx
    exact ⟨b, c, h.fmono _ _ hp, rfl⟩
  | _, .it _, hx => by
    simp only [Rep] at hx ⊢
    obtain ⟨b, c, hp, rfl⟩ := hx
    exact ⟨b, c, h.fmono _ _ hp, rfl⟩
  | _, .yl _, hx => by
    simp only [Rep] at hx ⊢
    obtain ⟨b, c, hp, rfl⟩ := hx
    exact ⟨b, c, h.fmono _ _ hp, rfl⟩
  | _, .own _ _, hx => by
    simp only [Rep] at hx ⊢
    rcases hx with ⟨b, c, hp, hn, rfl⟩ | ⟨hp, hn, rfl⟩
    · exact .inl ⟨b, c, h.fmono _ _ hp, hn, rfl⟩
    · exact .inr ⟨h.fmono _ _ hp, hn, rfl⟩
  | _, .fmp _ _, hx => by
    simp only [Rep] at hx ⊢
    obtain ⟨b, arr, c, rfl, hz, h1, h2, h3, h4⟩ := hx
    exact ⟨b, arr, c, rfl, h.zmono _ hz, (h.keep _ (hw.zlt _ hz) (ho _ hz)).trans h1, h2, RepL.tr h.cl hw.cl ho h3, h4⟩
  | _, .fn _ _ _, hx => by
    simp only [Rep] at hx ⊢
    obtain ⟨v1, v2, rfl, h1, h2⟩ := hx
    exact ⟨v1, v2, rfl, RepL.tr h hw ho h1, RepL.tr h hw ho h2⟩
  | _, .agg _, hx => by
    simp only [Rep] at hx ⊢
    obtain ⟨v1, rfl, h1⟩ := hx
    exact ⟨v1, rfl, RepL.tr h hw ho h1⟩
  | _, .tup _, hx => by
    simp only [Rep] at hx ⊢
    obtain ⟨v1, rfl, h1⟩ := hx
    exact ⟨v1, rfl, RepL.tr h hw ho h1⟩
theorem RepL.tr {own : Nat → Prop} {w w' : World} {g g' : G} (h : Tr own w g w' g') (hw : WF w g) (ho : ∀ b, g.Z b → ¬ own b) :
    ∀ {xs : List Value} {ds : List D}, RepL w g xs ds → RepL w' g' xs ds
  | [], [], _ => by simp [RepL]
  | [], _ :: _, hx => by simp [RepL] at hx
  | _ :: _, [], hx => by simp [RepL] at hx
  | x :: xs, d :: ds, hx => by
    simp only [RepL] at hx ⊢
    exact ⟨Rep.tr h hw ho hx.1, RepL.tr h hw ho hx.2⟩
theorem RepE.tr {own : Nat → Prop} {w w' : World} {g g' : G} (h : Tr own w g w' g') (hw : WF w g) (ho : ∀ b, g.Z b → ¬ own b) {ad : Addr} {size : Nat}
    (hb : w'.heap[ad.block]? = w.heap[ad.block]?) : ∀ {k : Nat} {es : List (List D)}, RepE w g ad size k es → RepE w' g' ad size k es
  | _, [], _ => by simp [RepE]
  | k, e :: r, hx => by
    simp only [RepE] at hx ⊢
    obtain ⟨⟨vs, hc, hl⟩, hr⟩ := hx
    exact ⟨⟨vs, hc.same (by rw [add_block]; exact hb), RepL.tr h hw ho hl⟩, RepE.tr h hw ho hb hr⟩
end

mutual
/-- More names, and more that is frozen. -/
theorem Rep.up {w : World} {g g' : G} (hz : ∀ b, g.Z b → g'.Z b) (hf : ∀ l p, g.φ l = some p → g'.φ l = some p) : ∀ {x : Value} {d : D}, Rep w g x d → Rep w g' x d
  | _, .any, _ => by simp [Rep]
  | _, .v _, hx => by simpa [Rep] using hx
  | _, .s _, hx => by simpa [Rep] using hx
  | _, .sl _ _, hx => by
    simp only [Rep] at hx ⊢
    obtain ⟨a, c, rfl, h1, h2, h3, h4⟩ := hx
    refine ⟨a, c, rfl, h1, h2, h3, fun hn => ?_⟩
    obtain ⟨ad, rfl, hb, hc⟩ := h4 hn
    exact ⟨ad, rfl, hz _ hb, RepE.up (g := g.cl) (g' := g'.cl) hz (fun _ _ h => h) hc⟩
  | _, .ep _, hx => by
    simp only [Rep] at hx ⊢
    obtain ⟨ad, vs, rfl, hb, hc, h5⟩ := hx
    exact ⟨ad, vs, rfl, hz _ hb, hc, RepL.up (g := g.cl) (g' := g'.cl) hz (fun _ _ h => h) h5⟩
  | _, .ref _ _, hx => by
    simp only [Rep] at hx ⊢
    obtain ⟨b, c, hp, rfl⟩ := hx
    exact ⟨b, c, hf _ _ hp, rfl⟩
  | _, .oel _ _ _ _, hx => by
    simp only [Rep] at hx ⊢
    obtain ⟨b, c, hp, rfl⟩ := hx
    exact ⟨b, c, hf _ _ hp, rfl⟩
  | _, .mp _, hx => by
    simp only [Rep] at hx ⊢
    obtain ⟨b, c, hp, rfl⟩ := hx
    exact ⟨b, c, hf _ _ hp, rfl⟩
  | _, .it _, hx => by
    simp only [Rep] at hx ⊢
    obtain ⟨b, c, hp, rfl⟩ := hx
    exact ⟨b, c, hf _ _ hp, rfl⟩
  | _, .yl _, hx => by
    simp only [Rep] at hx ⊢
    obtain ⟨b, c, hp, rfl⟩ := hx
    exact ⟨b, c, hf _ _ hp, rfl⟩
  | _, .own _ _, hx => by
    simp only [Rep] at hx ⊢
    rcases hx with ⟨b, c, hp, hn, rfl⟩ | ⟨hp, hn, rfl⟩
    · exact .inl ⟨b, c, hf _ _ hp, hn, rfl⟩
    · exact .inr ⟨hf _ _ hp, hn, rfl⟩
  | _, .fmp _ _, hx => by
    simp only [Rep] at hx ⊢
    obtain ⟨b, arr, c, rfl, hb, h1, h2, h3, h4⟩ := hx
    exact ⟨b, arr, c, rfl, hz _ hb, h1, h2, RepL.up (g := g.cl) (g' := g'.cl) hz (fun _ _ h => h) h3, h4⟩
  | _, .fn _ _ _, hx => by
    simp only [Rep] at hx ⊢
    obtain ⟨v1, v2, rfl, h1, h2⟩ := hx
    exact ⟨v1, v2, rfl, RepL.up hz hf h1, RepL.up hz hf h2⟩
  | _, .agg _, hx => by
    simp only [Rep] at hx ⊢
    obtain ⟨v1, rfl, h1⟩ := hx
    exact ⟨v1, rfl, RepL.up hz hf h1⟩
  | _, .tup _, hx => by
    simp only [Rep] at hx ⊢
    obtain ⟨v1, rfl, h1⟩ := hx
    exact ⟨v1, rfl, RepL.up hz hf h1⟩
theorem RepL.up {w : World} {g g' : G} (hz : ∀ b, g.Z b → g'.Z b) (hf : ∀ l p, g.φ l = some p → g'.φ l = some p) : ∀ {xs : List Value} {ds : List D}, RepL w g xs ds → RepL w g' xs ds
  | [], [], _ => by simp [RepL]
  | [], _ :: _, hx => by simp [RepL] at hx
  | _ :: _, [], hx => by simp [RepL] at hx
  | x :: xs, d :: ds, hx => by
    simp only [RepL] at hx ⊢
    exact ⟨Rep.up hz hf hx.1, RepL.up hz hf hx.2⟩
theorem RepE.up {w : World} {g g' : G} (hz : ∀ b, g.Z b → g'.Z b) (hf : ∀ l p, g.φ l = some p → g'.φ l = some p) {ad : Addr} {size : Nat} : ∀ {k : Nat} {es : List (List D)}, RepE w g ad size k es → RepE w g' ad size k es
  | _, [], _ => by simp [RepE]
  | k, e :: r, hx => by
    simp only [RepE] at hx ⊢
    obtain ⟨⟨vs, hc, hl⟩, hr⟩ := hx
    exact ⟨⟨vs, hc, RepL.up hz hf hl⟩, RepE.up hz hf hr⟩
end
theorem Rep.ofCl {w : World} {g : G} {x : Value} {d : D} (h : Rep w g.cl x d) : Rep w g x d := Rep.up (g := g.cl) (g' := g) (fun _ h => h) (fun _ _ h => by simp [G.cl] at h) h
theorem RepL.ofCl {w : World} {g : G} {x : List Value} {d : List D} (h : RepL w g.cl x d) : RepL w g x d := RepL.up (g := g.cl) (g' := g) (fun _ h => h) (fun _ _ h => by simp [G.cl] at h) h
theorem RepE.ofCl {w : World} {g : G} {ad : Addr} {size k : Nat} {es : List (List D)} (h : RepE w g.cl ad size k es) : RepE w g ad size k es := RepE.up (g := g.cl) (g' := g) (fun _ h => h) (fun _ _ h => by simp [G.cl] at h) h

/-- No name stands in it. -/
def free : D → Bool
  | .ref _ _ | .oel _ _ _ _ | .own _ _ | .mp _ | .it _ | .yl _ => false
  | .agg cs | .tup cs => freeL cs
  | .fn _ a b => freeL a && freeL b
  | _ => true
where
  freeL : List D → Bool
  | [] => true
  | d :: ds => free d && freeL ds
abbrev freeL := free.freeL

mutual
/-- Without names the ghost's names play no part; more may be frozen. -/
theorem Rep.free {w : World} {g g' : G} (hz : ∀ b, g.Z b → g'.Z b) : ∀ {x : Value} {d : D}, free d = true → Rep w g x d → Rep w g' x d
  | _, .any, _, _ => by simp [Rep]
  | _, .v _, _, hx => by simpa [Rep] using hx
  | _, .s _, _, hx => by simpa [Rep] using hx
  | _, .sl es size, _, hx => by
    simp only [Rep] at hx ⊢
    obtain ⟨a, c, rfl, h1, h2, h3, h4⟩ := hx
    refine ⟨a, c, rfl, h1, h2, h3, fun hn => ?_⟩
    obtain ⟨ad, rfl, hb, hc⟩ := h4 hn
    exact ⟨ad, rfl, hz _ hb, RepE.up (g := g.cl) (g' := g'.cl) hz (fun _ _ h => h) hc⟩
  | _, .ep _, _, hx => by
    simp only [Rep] at hx ⊢
    obtain ⟨ad, vs, rfl, hb, hc, h5⟩ := hx
    exact ⟨ad, vs, rfl, hz _ hb, hc, RepL.up (g := g.cl) (g' := g'.cl) hz (fun _ _ h => h) h5⟩
  | _, .ref _ _, hf, _ => by simp [Abs.free] at hf
  | _, .own _ _, hf, _ => by simp [Abs.free] at hf
  | _, .oel _ _ _ _, hf, _ => by simp [Abs.free] at hf
  | _, .mp _, hf, _ => by simp [Abs.free] at hf
  | _, .it _, hf, _ => by simp [Abs.free] at hf
  | _, .yl _, hf, _ => by simp [Abs.free] at hf
  | _, .fmp _ _, _, hx => by
    simp only [Rep] at hx ⊢
    obtain ⟨b, arr, c, rfl, hb, h1, h2, h3, h4⟩ := hx
    exact ⟨b, arr, c, rfl, hz _ hb, h1, h2, RepL.up (g := g.cl) (g' := g'.cl) hz (fun _ _ h => h) h3, h4⟩
  | _, .fn _ _ _, hf, hx => by
    simp only [Abs.free, Bool.and_eq_true] at hf
    simp only [Rep] at hx ⊢
    obtain ⟨v1, v2, rfl, h1, h2⟩ := hx
    exact ⟨v1, v2, rfl, RepL.free hz hf.1 h1, RepL.free hz hf.2 h2⟩
  | _, .agg _, hf, hx => by
    simp only [Abs.free] at hf
    simp only [Rep] at hx ⊢
    obtain ⟨v1, rfl, h1⟩ := hx
    exact ⟨v1, rfl, RepL.free hz hf h1⟩
  | _, .tup _, hf, hx => by
    simp only [Abs.free] at hf
    simp only [Rep] at hx ⊢
    obtain ⟨v1, rfl, h1⟩ := hx
    exact ⟨v1, rfl, RepL.free hz hf h1⟩
theorem RepL.free {w : World} {g g' : G} (hz : ∀ b, g.Z b → g'.Z b) : ∀ {xs : List Value} {ds : List D}, Abs.freeL ds = true → RepL w g xs ds → RepL w g' xs ds
  | [], [], _, _ => by simp [RepL]
  | [], _ :: _, _, hx => by simp [RepL] at hx
  | _ :: _, [], _, hx => by simp [RepL] at hx
  | x :: xs, d :: ds, hf, hx => by
    simp only [Abs.freeL, Abs.free.freeL, Bool.and_eq_true] at hf
    simp only [RepL] at hx ⊢
    exact ⟨Rep.free hz hf.1 hx.1, RepL.free hz hf.2 hx.2⟩
end
theorem RepE.free {w : World} {g g' : G} (hz : ∀ b, g.Z b → g'.Z b) {ad : Addr} {size : Nat} : ∀ {k : Nat} {es : List (List D)}, (∀ e ∈ es, freeL e = true) → RepE w g ad size k es → RepE w g' ad size k es
  | _, [], _, _ => by simp [RepE]
  | k, e :: r, hf, hx => by
    simp only [RepE] at hx ⊢
    obtain ⟨⟨vs, hc, hl⟩, hr⟩ := hx
    exact ⟨⟨vs, hc, RepL.free hz (hf e (by simp)) hl⟩, RepE.free hz (fun e he => hf e (by simp [he])) hr⟩
theorem Rep.toCl {w : World} {g : G} {x : Value} {d : D} (hf : Abs.free d = true) (h : Rep w g x d) : Rep w g.cl x d := Rep.free (g := g) (g' := g.cl) (fun _ h => h) hf h
theorem RepL.toCl {w : World} {g : G} {x : List Value} {d : List D} (hf : Abs.freeL d = true) (h : RepL w g x d) : RepL w g.cl x d := RepL.free (g := g) (g' := g.cl) (fun _ h => h) hf h
theorem RepE.toCl {w : World} {g : G} {ad : Addr} {size k : Nat} {es : List (List D)} (hf : ∀ e ∈ es, Abs.freeL e = true) (h : RepE w g ad size k es) : RepE w g.cl ad size k es := RepE.free (g := g) (g' := g.cl) (fun _ h => h) hf h
end Go.Abs
namespace Go.Abs
open Go

/-! ### Steps in whatever order their conflicts leave -/
section comb
variable {L C : Type} [DecidableEq L]

def app (f : L → Option C) : List (L × Option C) → L → Option C
  | [], l => f l
  | (k, c) :: r, l => if k = l then c else app f r l

structure Ac (L C : Type) where
  wr : List (L × Option C)
  touch : List L

def run : List (Ac L C) → (Nat → Bool) → Nat → (L → Option C) → L → Option C
  | [], _, _, f => f
  | a :: r, E, i, f => run r E (i + 1) (if E i then app f a.wr else f)

theorem app_congr {f f' : L → Option C} {ws : List (L × Option C)} {l : L} (h : l ∉ ws.map (·.1) → f l = f' l) : app f ws l = app f' ws l := by
  induction ws with
  | nil => exact h (by simp)
  | cons x r ih =>
    obtain ⟨k, c⟩ := x
    simp only [app]
    split
    · rfl
    · rename_i hk
      exact ih fun hn => h (by simp only [List.map_cons, List.mem_cons, not_or]; exact ⟨fun e => hk e.symm, hn⟩)
theorem app_not {f : L → Option C} {ws : List (L × Option C)} {l : L} (h : l ∉ ws.map (·.1)) : app f ws l = f l := by
  induction ws with
  | nil => rfl
  | cons x r ih =>
    obtain ⟨k, c⟩ := x
    simp only [List.map_cons, List.mem_cons, not_or] at h
    simp only [app]
    rw [if_neg (fun e => h.1 e.symm), ih h.2]

theorem run_congr {steps : List (Ac L C)} : ∀ {E E' : Nat → Bool} {i : Nat} {f f' : L → Option C} {l : L},
    (∀ k a, steps[k]? = some a → l ∈ a.wr.map (·.1) → E (i + k) = E' (i + k)) → f l = f' l → run steps E i f l = run steps E' i f' l := by
  induction steps with
  | nil => intro E E' i f f' l _ hf; exact hf
  | cons a r ih =>
    intro E E' i f f' l h hf
    simp only [run]
    refine ih (fun k b hk hl => ?_) ?_
    · have := h (k + 1) b (by simpa using hk) hl
      rwa [show i + 1 + k = i + (k + 1) by omega]
    · by_cases hl : l ∈ a.wr.map (·.1)
      · have := h 0 a rfl hl
        simp only [Nat.add_zero] at this
        rw [this]
        split
        · exact app_congr fun hn => absurd hl hn
        · exact hf
      · have e1 : (if E i then app f a.wr else f) l = f l := by split; exact app_not hl; rfl
        have e2 : (if E' i then app f' a.wr else f') l = f' l := by split; exact app_not hl; rfl
        rw [e1, e2, hf]

theorem run_append {s t : List (Ac L C)} : ∀ {E : Nat → Bool} {i : Nat} {f : L → Option C}, run (s ++ t) E i f = run t E (i + s.length) (run s E i f) := by
  induction s with
  | nil => intro E i f; rfl
  | cons a r ih =>
    intro E i f
    simp only [List.cons_append, run, List.length_cons]
    rw [ih, show i + 1 + r.length = i + (r.length + 1) by omega]

/-- Nothing executed from here on writes l: it stays. -/
theorem run_not {steps : List (Ac L C)} : ∀ {E : Nat → Bool} {i : Nat} {f : L → Option C} {l : L},
    (∀ k a, steps[k]? = some a → l ∈ a.wr.map (·.1) → E (i + k) = false) → run steps E i f l = f l := by
  induction steps with
  | nil => intro E i f l _; rfl
  | cons a r ih =>
    intro E i f l h
    simp only [run]
    rw [ih (fun k b hk hl => by
      have := h (k + 1) b (by simpa using hk) hl
      rwa [show i + 1 + k = i + (k + 1) by omega])]
    by_cases hl : l ∈ a.wr.map (·.1)
    · have := h 0 a rfl hl
      simp only [Nat.add_zero] at this
      simp [this]
    · split
      · exact app_not hl
      · rfl

/-- What conflicts is ordered. -/
def Ordered (steps : List (Ac L C)) (ord : Nat → Nat → Prop) : Prop :=
  ∀ i j a b l, i < j → steps[i]? = some a → steps[j]? = some b →
    (l ∈ a.wr.map (·.1) ∧ (l ∈ b.touch ∨ l ∈ b.wr.map (·.1))) ∨ (l ∈ a.touch ∧ l ∈ b.wr.map (·.1)) → ord i j

theorem take_get {α : Type} {s : List α} {i k : Nat} {a : α} (h : (s.take i)[k]? = some a) : s[k]? = some a ∧ k < i := by
  rw [List.getElem?_take] at h
  split at h
  · exact ⟨h, ‹_›⟩
  · cases h

/-- What a ready step reads is what it reads in the order of the text. -/
theorem run_read {steps : List (Ac L C)} {ord : Nat → Nat → Prop} (ho : Ordered steps ord) {E : Nat → Bool} {f : L → Option C} {i : Nat} {a : Ac L C}
    (hi : steps[i]? = some a) (hready : ∀ k, ord k i → E k = true) (hclosed : ∀ j k, E j = true → ord k j → E k = true) (hEi : E i = false)
    {l : L} (hl : l ∈ a.touch) : run steps E 0 f l = run (steps.take i) (fun _ => true) 0 f l := by
  have hs : steps = steps.take i ++ steps.drop i := (List.take_append_drop i steps).symm
  have hlt : i < steps.length := (List.getElem?_eq_some_iff.1 hi).1
  rw [hs, run_append]
  rw [run_not (l := l)]
  · rw [← hs]
    refine run_congr (fun k b hk hw => ?_) rfl
    obtain ⟨hk', hlt'⟩ := take_get hk
    simp only [Nat.zero_add]
    exact hready k (ho k i b a l hlt' hk' hi (.inl ⟨hw, .inl hl⟩))
  · intro k b hk hw
    rw [List.getElem?_drop] at hk
    rw [List.length_take, Nat.min_eq_left (by omega), Nat.zero_add]
    rcases Nat.eq_zero_or_pos k with rfl | hpos
    · simpa using hEi
    · cases hE : E (i + k) with
      | false => rfl
      | true =>
        have := hclosed (i + k) i hE (ho i (i + k) a b l (by omega) hi hk (.inr ⟨hl, hw⟩))
        rw [hEi] at this
        cases this

/-- A ready step's writes come on top. -/
theorem run_write {steps : List (Ac L C)} {ord : Nat → Nat → Prop} (ho : Ordered steps ord) {E : Nat → Bool} {f : L → Option C} {i : Nat} {a : Ac L C}
    (hi : steps[i]? = some a) (hclosed : ∀ j k, E j = true → ord k j → E k = true) (hEi : E i = false) :
    run steps (fun k => if k = i then true else E k) 0 f = app (run steps E 0 f) a.wr := by
  funext l
  have hlt : i < steps.length := (List.getElem?_eq_some_iff.1 hi).1
  by_cases hw : l ∈ a.wr.map (·.1)
  · have hs : steps = steps.take i ++ (a :: steps.drop (i + 1)) := by
      have e := List.drop_eq_getElem_cons hlt
      rw [(List.getElem?_eq_some_iff.1 hi).2] at e
      rw [← e, List.take_append_drop]
    rw [app_congr (f' := fun _ => none) (fun hn => absurd hw hn)]
    rw [hs, run_append]
    simp only [run, List.length_take, Nat.min_eq_left (Nat.le_of_lt hlt), Nat.zero_add, if_true]
    rw [run_not]
    · exact app_congr fun hn => absurd hw hn
    · intro k b hk hwb
      rw [List.getElem?_drop] at hk
      have hne : i + 1 + k ≠ i := by omega
      simp only [hne, if_false]
      cases hE : E (i + 1 + k) with
      | false => rfl
      | true =>
        have := hclosed _ i hE (ho i (i + 1 + k) a b l (by omega) hi hk (.inl ⟨hw, .inr hwb⟩))
        rw [hEi] at this
        cases this
  · rw [app_not hw]
    refine run_congr (fun k b hk hwb => ?_) rfl
    simp only [Nat.zero_add]
    split
    · rename_i hki
      subst hki
      rw [hi] at hk
      cases hk
      exact absurd hwb hw
    · rfl

theorem run_take_succ {steps : List (Ac L C)} {f : L → Option C} {i : Nat} {a : Ac L C} (hi : steps[i]? = some a) :
    run (steps.take (i + 1)) (fun _ => true) 0 f = app (run (steps.take i) (fun _ => true) 0 f) a.wr := by
  have hlt : i < steps.length := (List.getElem?_eq_some_iff.1 hi).1
  rw [List.take_add_one, hi]
  simp only [Option.toList_some]
  rw [run_append]
  simp [run]
end comb

/-! ### What lies in memory under a name -/
def getT : List (Nat × D) → Nat → D
  | [], _ => .any
  | (u, d) :: r, t => if u = t then d else getT r t
def mapT (f : D → D) (σ : List (Nat × D)) : List (Nat × D) := σ.map fun x => (x.1, f x.2)
theorem getT_mapT {f : D → D} {σ : List (Nat × D)} {t : Nat} : getT (mapT f σ) t = f (getT σ t) ∨ getT (mapT f σ) t = .any := by
  induction σ with
  | nil => exact .inr rfl
  | cons x r ih =>
    obtain ⟨u, d⟩ := x
    simp only [mapT, List.map_cons, getT] at ih ⊢
    split
    · exact .inl rfl
    · exact ih

/-- The temporaries of a record. -/
def RepT (w : World) (g : G) (n : Nat) (tm : Array Value) (σ : List (Nat × D)) : Prop := tm.size = n ∧ ∀ t, Rep w g (tm.getD t undef) (getT σ t)
theorem RepT.mapT {w w' : World} {g g' : G} {n : Nat} {tm : Array Value} {σ : List (Nat × D)} {f : D → D} (h : RepT w g n tm σ) (hf : ∀ x d, Rep w g x d → Rep w' g' x (f d)) : RepT w' g' n tm (mapT f σ) :=
  ⟨h.1, fun t => by
    rcases getT_mapT (f := f) (σ := σ) (t := t) with e | e
    · rw [e]; exact hf _ _ (h.2 t)
    · rw [e]; simp [Rep]⟩
theorem RepT.mono {w w' : World} {g g' : G} {n : Nat} {tm : Array Value} {σ : List (Nat × D)} (h : RepT w g n tm σ) (hf : ∀ x d, Rep w g x d → Rep w' g' x d) : RepT w' g' n tm σ := ⟨h.1, fun t => hf _ _ (h.2 t)⟩

/-- The marks of ranges over functions among an activation's deferred calls: shut blocks that hold no call. -/
def mark (r : Nat) : Deferred := { target := .collected r, args := #[] }
def Marks (n0 : Nat) (w : World) (g : G) (ds : List Deferred) : Prop := ds.Nodup ∧ ∀ d ∈ ds, ∃ r, d = mark r ∧ n0 ≤ r ∧ g.Z r ∧ w.heap[r]? = some (.deferred (some []))
theorem Marks.nil {n0 : Nat} {w : World} {g : G} : Marks n0 w g [] := ⟨List.nodup_nil, by simp⟩
theorem Marks.tr {own : Nat → Prop} {n0 : Nat} {w w' : World} {g g' : G} {ds : List Deferred} (hm : Marks n0 w g ds) (h : Tr own w g w' g') (hw : WF w g) (ho : ∀ b, g.Z b → ¬ own b) : Marks n0 w' g' ds :=
  ⟨hm.1, fun d hd => let ⟨r, h1, h2, h3, h4⟩ := hm.2 d hd; ⟨r, h1, h2, h.zmono _ h3, (h.keep _ (hw.zlt _ h3) (ho _ h3)).trans h4⟩⟩
theorem Marks.up {n0 : Nat} {w : World} {g g' : G} {ds : List Deferred} (hm : Marks n0 w g ds) (hz : ∀ b, g.Z b → g'.Z b) : Marks n0 w g' ds :=
  ⟨hm.1, fun d hd => let ⟨r, h1, h2, h3, h4⟩ := hm.2 d hd; ⟨r, h1, h2, hz _ h3, h4⟩⟩

inductive AO where
  | box (cells : List D)
  | row (e : TypeId) (size : Nat) (elems : List (List D))
  | mp (es : List (Value × D))
  | si (s : List UInt8) (pos : Nat)
  | lp (s : LoopState) (pend : Option Code) (σ : List (Nat × D)) (n : Nat) (ps : List Nat) (assign body : Code)

def ObjRep (w : World) (g : G) (p : Option Nat × Nat) : AO → Prop
  | .box cs => ∃ b arr t, p.1 = some b ∧ w.heap[b]? = some (.cells arr t (0, 0)) ∧ RepL w g arr.toList cs
  | .row e size es => (p = (none, 0) ∧ es = []) ∨ ∃ b arr, p.1 = some b ∧ w.heap[b]? = some (.cells arr e (0, 0)) ∧ es.length ≤ p.2 ∧ p.2 ≤ maxLen ∧ arr.size = p.2 * size ∧ (∀ e ∈ es, e.length = size) ∧ RepE w g ⟨b, 0, none⟩ size 0 es
  | .mp es => ∃ b arr clock, p.1 = some b ∧ w.heap[b]? = some (.map arr clock) ∧ arr.toList.map (·.key) = es.map (·.1) ∧ RepL w g (arr.toList.map (·.val)) (es.map (·.2)) ∧
      (∀ e ∈ arr.toList, e.born < clock) ∧ (arr.toList.map (·.born)).Nodup
  | .si s pos => ∃ b, p.1 = some b ∧ w.heap[b]? = some (.stringIter ⟨⟨s⟩⟩ pos)
  | .lp s pend σ n ps assign body => ∃ b r, p.1 = some b ∧ w.heap[b]? = some (.loop r) ∧ r.state = s ∧ r.pending = pend ∧ r.params.toList = ps ∧ r.assign = assign ∧ r.body = body ∧ RepT w g n r.tmps σ

theorem ObjRep.tr {own : Nat → Prop} {w w' : World} {g g' : G} (h : Tr own w g w' g') (hw : WF w g) (ho : ∀ b, g.Z b → ¬ own b) {p : Option Nat × Nat} (hp : ∀ b, p.1 = some b → ¬ own b ∧ b < w.heap.size) {o : AO}
    (hx : ObjRep w g p o) : ObjRep w' g' p o := by
  have hk : ∀ b, p.1 = some b → w'.heap[b]? = w.heap[b]? := fun b hb => h.keep b (hp b hb).2 (hp b hb).1
  cases o with
  | box cs =>
    obtain ⟨b, arr, t, hb, h1, h2⟩ := hx
    exact ⟨b, arr, t, hb, (hk b hb).trans h1, h2.tr h hw ho⟩
  | row e size es =>
    rcases hx with hx | ⟨b, arr, hb, h1, h2, h3, h4, h5, h6⟩
    · exact .inl hx
    · exact .inr ⟨b, arr, hb, (hk b hb).trans h1, h2, h3, h4, h5, h6.tr h hw ho (hk b hb)⟩
  | mp es =>
    obtain ⟨b, arr, c, hb, h1, h2, h3, h4, h5⟩ := hx
    exact ⟨b, arr, c, hb, (hk b hb).trans h1, h2, h3.tr h hw ho, h4, h5⟩
  | si s pos =>
    obtain ⟨b, hb, h1⟩ := hx
    exact ⟨b, hb, (hk b hb).trans h1⟩
  | lp s pend σ n ps assign body =>
    obtain ⟨b, r, hb, h1, h2, h3, h4, h5, h6, h7⟩ := hx
    exact ⟨b, r, hb, (hk b hb).trans h1, h2, h3, h4, h5, h6, h7.mono fun _ _ hx => hx.tr h hw ho⟩

abbrev Store := List (Nat × AO)
def look : Store → Nat → Option AO
  | [], _ => none
  | (k, o) :: r, l => if k = l then some o else look r l

/-- What is wanted of a type. -/
inductive TK where
  | int (k : IntKind)
  | bool
  | str
  | slice (e : Nat)
  | struct (fs : List (Nat × Nat))
  | array (n e : Nat)
  | map (k e : Nat)
  | ptr (e : Nat)
  | func
  | other

structure TI where
  agg : Bool
  size : Nat
  bytes : Nat
  zero : List D
  k : TK
  eqok : Bool
  zd : D

def constD : Value → D
  | .string s => .s s.data.toList
  | v => .v v

def zdOf : Value → D
  | .agg vs => .agg (vs.toList.map constD)
  | v => constD v

def toTK : TypeDesc → TK
  | .int k => .int k
  | .bool => .bool
  | .string => .str
  | .slice e => .slice e
  | .struct fs => .struct (fs.toList.map fun f => (f.offset, f.type))
  | .array n e => .array n e
  | .map k e => .map k e
  | .pointer e => .ptr e
  | .func _ _ _ => .func
  | _ => .other
def descAgg : TypeDesc → Bool
  | .struct _ | .array _ _ => true
  | _ => false

def tiOf (P : Program) (t : Nat) : Option TI :=
  match P.info? t, P.underlying t with
  | some i, some d => match i.zero with
    | some z => some ⟨descAgg d, i.size, i.bytes, z.cells.toList.map constD, toTK d,
        (match d with | .struct fs => fs.toList.all (fun f => f.name != "_") | _ => true) && !P.stoodInHeld t && !P.eqGuardType P.depth t, zdOf z⟩
    | none => none
  | _, _ => none

/-- The program, its types, its variables. -/
structure Sy where
  P : Program
  T : Nat → Option TI
  hT : ∀ t ti, T t = some ti → tiOf P t = some ti
  hm : P.follows .mixedOrders = true
  gl : Nat → D

structure Env (Y : Sy) where
  F : Fence
  hF : ∀ f, F.fn f
  hd : F.depth = none
  hal : F.alive = false
  N : Nat
  w0 : World
  g0 : G
  own0 : Nat → Prop
  hz0 : ∀ b, g0.Z b → ¬ own0 b
  wf0 : WF w0 g0
  hgl : ∀ i, Rep w0 g0.cl (.pointer (some ⟨i, 0, none⟩)) (Y.gl i)
  rd : Option Nat
  hrd : match rd with | none => F.round = none | some l => ∃ b c, F.round = some b ∧ g0.φ l = some (some b, c)
abbrev Env.P {Y : Sy} (_ : Env Y) : Program := Y.P
abbrev Env.T {Y : Sy} (_ : Env Y) : Nat → Option TI := Y.T
abbrev Env.gl {Y : Sy} (_ : Env Y) : Nat → D := Y.gl
theorem Env.hT {Y : Sy} (E : Env Y) : ∀ t ti, E.T t = some ti → tiOf E.P t = some ti := Y.hT
theorem Env.hm {Y : Sy} (E : Env Y) : E.P.follows .mixedOrders = true := Y.hm

structure SimS {Y : Sy} (E : Env Y) (w : World) (g : G) (c : Nat → Option AO) : Prop where
  obj : ∀ l o, c l = some o → ∃ p, g.φ l = some p ∧ ObjRep w g p o ∧ ∀ b, p.1 = some b → ¬ g.Z b ∧ (b < E.w0.heap.size → E.own0 b)
  apart : ∀ l l' b x x', c l ≠ none → c l' ≠ none → l ≠ l' → g.φ l = some (some b, x) → g.φ l' = some (some b, x') → False

def ownC (g : G) (c : Nat → Option AO) (b : Nat) : Prop := ∃ l x, c l ≠ none ∧ g.φ l = some (some b, x)

structure Reach {Y : Sy} (E : Env Y) (w : World) (g : G) : Prop where
  tr : Tr E.own0 E.w0 E.g0 w g
  wf : WF w g

theorem SimS.own_z {Y : Sy} {E : Env Y} {w : World} {g : G} {c : Nat → Option AO} (h : SimS E w g c) : ∀ b, g.Z b → ¬ ownC g c b := by
  rintro b hz ⟨l, x, hc, hp⟩
  cases ho : c l with
  | none => exact hc ho
  | some o =>
    obtain ⟨q, hq, _, hn⟩ := h.obj l o ho
    rw [hp] at hq
    cases hq
    exact (hn b rfl).1 hz
theorem SimS.own_own0 {Y : Sy} {E : Env Y} {w : World} {g : G} {c : Nat → Option AO} (h : SimS E w g c) : ∀ b, b < E.w0.heap.size → ownC g c b → E.own0 b := by
  rintro b hlt ⟨l, x, hc, hp⟩
  cases ho : c l with
  | none => exact absurd ho hc
  | some o =>
    obtain ⟨q, hq, _, hn⟩ := h.obj l o ho
    rw [hp] at hq
    cases hq
    exact (hn b rfl).2 hlt
theorem SimS.sub {Y : Sy} {E : Env Y} {w : World} {g : G} {c c' : Nat → Option AO} (h : SimS E w g c) (hs : ∀ l o, c' l = some o → c l = some o) : SimS E w g c' where
  obj l o ho := h.obj l o (hs l o ho)
  apart l l' b x x' h1 h2 := by
    refine h.apart l l' b x x' (fun e => h1 ?_) (fun e => h2 ?_)
    · cases hc : c' l with
      | none => rfl
      | some o => rw [hs l o hc] at e; cases e
    · cases hc : c' l' with
      | none => rfl
      | some o => rw [hs l' o hc] at e; cases e

/-- One step's move, over the names that it takes. -/
structure Move {Y : Sy} (E : Env Y) (pre post : Nat → Option AO) (w : World) (g : G) (w' : World) (g' : G) : Prop where
  tr : Tr (ownC g pre) w g w' g'
  wf : WF w' g'
  sim : SimS E w' g' post
  dom : ∀ l, g'.φ l ≠ none → g.φ l ≠ none ∨ post l ≠ none

theorem Move.reach {Y : Sy} {E : Env Y} {pre post : Nat → Option AO} {w w' : World} {g g' : G} (hr : Reach E w g) (hs : SimS E w g pre) (h : Move E pre post w g w' g') : Reach E w' g' :=
  ⟨hr.tr.trans h.tr (fun b hb ho => hs.own_own0 b hb ho), h.wf⟩

/-- The rest of the store stays. -/
theorem SimS.frame {Y : Sy} {E : Env Y} {w w' : World} {g g' : G} {c pre post : Nat → Option AO} (hw : WF w g) (h : SimS E w g c) (hpre : ∀ l o, pre l = some o → c l = some o)
    (hm : Move E pre post w g w' g') (hnew : ∀ l, pre l = none → post l ≠ none → c l = none ∧ g.φ l = none)
    {c' : Nat → Option AO} (hc' : ∀ l, c' l = if pre l = none ∧ post l = none then c l else post l) : SimS E w' g' c' := by
  have hz := (h.sub hpre).own_z
  have key : ∀ l o, pre l = none → post l = none → c l = some o → ∃ p, g.φ l = some p ∧ g'.φ l = some p ∧ (∀ b, p.1 = some b → ¬ ownC g pre b ∧ b < w.heap.size) ∧ ObjRep w' g' p o ∧ ∀ b, p.1 = some b → ¬ g'.Z b ∧ (b < E.w0.heap.size → E.own0 b) := by
    intro l o h1 h2 h3
    obtain ⟨p, hp, ho, hn⟩ := h.obj l o h3
    have hno : ∀ b, p.1 = some b → ¬ ownC g pre b ∧ b < w.heap.size := by
      rintro b hb
      obtain ⟨pb, x⟩ := p
      simp only at hb
      subst hb
      refine ⟨?_, hw.flt l b x hp⟩
      rintro ⟨l', x', hl', hp'⟩
      have hne : l ≠ l' := by rintro rfl; exact hl' h1
      cases hpl : pre l' with
      | none => exact hl' hpl
      | some o' => exact h.apart l l' b x x' (by rw [h3]; simp) (by rw [hpre l' o' hpl]; simp) hne hp hp'
    exact ⟨p, hp, hm.tr.fmono _ _ hp, hno, ho.tr hm.tr hw hz hno, fun b hb => ⟨fun hz' => (hn b hb).1 (hm.tr.znew _ hz' (hno b hb).2 (hno b hb).1), (hn b hb).2⟩⟩
  have hpo : ∀ l b x, post l ≠ none → g'.φ l = some (some b, x) → w.heap.size ≤ b ∨ ownC g pre b := by
    intro l b x hl hp'
    cases hg : g.φ l with
    | none => exact hm.tr.fnew l b x hp' hg
    | some q =>
      have := hm.tr.fmono l q hg
      rw [hp'] at this
      cases this
      refine .inr ⟨l, x, ?_, hg⟩
      intro hn
      have := (hnew l hn hl).2
      rw [hg] at this
      cases this
  constructor
  · intro l o ho
    rw [hc'] at ho
    split at ho
    · rename_i hb
      obtain ⟨p, _, hp', _, h1, h2⟩ := key l o hb.1 hb.2 ho
      exact ⟨p, hp', h1, h2⟩
    · exact hm.sim.obj l o ho
  · intro l l' b x x' h1 h2 hne hp hp'
    rw [hc'] at h1 h2
    split at h1 <;> split at h2
    · rename_i hb hb'
      cases hl : c l with
      | none => exact absurd hl h1
      | some o =>
        cases hl' : c l' with
        | none => exact absurd hl' h2
        | some o' =>
          obtain ⟨q, hq, hq', _⟩ := key l o hb.1 hb.2 hl
          obtain ⟨q2, hq2, hq2', _⟩ := key l' o' hb'.1 hb'.2 hl'
          rw [hp] at hq'
          rw [hp'] at hq2'
          cases hq'
          cases hq2'
          exact h.apart l l' b x x' (by rw [hl]; simp) (by rw [hl']; simp) hne hq hq2
    · rename_i hb hb'
      cases hl : c l with
      | none => exact absurd hl h1
      | some o =>
        obtain ⟨q, hq, hq', hno, _⟩ := key l o hb.1 hb.2 hl
        rw [hp] at hq'
        cases hq'
        rcases hpo l' b x' h2 hp' with h3 | h3
        · have := (hno b rfl).2; omega
        · exact (hno b rfl).1 h3
    · rename_i hb hb'
      cases hl : c l' with
      | none => exact absurd hl h2
      | some o =>
        obtain ⟨q, hq, hq', hno, _⟩ := key l' o hb'.1 hb'.2 hl
        rw [hp'] at hq'
        cases hq'
        rcases hpo l b x h1 hp with h3 | h3
        · have := (hno b rfl).2; omega
        · exact (hno b rfl).1 h3
    · exact hm.sim.apart l l' b x x' h1 h2 hne hp hp'
end Go.Abs
namespace Go.Abs
open Go

abbrev Loc := Nat ⊕ Nat
abbrev Cn := D ⊕ AO

def fT (f : Loc → Option Cn) (t : Nat) : D := match f (.inl t) with | some (.inl d) => d | _ => .any
def fS (f : Loc → Option Cn) (l : Nat) : Option AO := match f (.inr l) with | some (.inr o) => some o | _ => none

structure StOK {Y : Sy} (E : Env Y) (ds : List Deferred) (a : Act) (w : World) (g : G) (f : Loc → Option Cn) : Prop where
  tm : ∀ t, Rep w g (a.tmps.getD t undef) (fT f t)
  st : SimS E w g (fS f)
  sz : a.tmps.size = E.N
  df : a.defers = ds
  mks : Marks E.w0.heap.size w g ds

/-- What an operation does: it asks the temporaries 'use' and the names 'pre', yields d, and leaves 'post'. -/
def Acts {Y : Sy} (E : Env Y) (o : Oper) (use : List (Nat × D)) (pre : Store) (d : D) (post : Store) : Prop :=
  ∀ (a : Act) w g, Reach E w g → (∀ x ∈ use, Rep w g (a.tmps.getD x.1 undef) x.2) → SimS E w g (look pre) → (∀ l, look pre l = none → look post l ≠ none → g.φ l = none) →
    ∀ next Q, (∀ v w' g', Move E (look pre) (look post) w g w' g' → Rep w' g' v d → next (a.put o.dst v) w') → o.wpIn E.F 0 E.P a w next Q

inductive SD where
  | skip
  | act (use : List (Nat × D)) (pre : Store) (d : D) (post : Store) (chg : Bool)

def wrT (dst : Option Tmp) (d : D) : List (Loc × Option Cn) := match dst with | some t => [(.inl t, some (.inl d))] | none => []
def gTmp (ops : Array Oper) (o : Oper) : List Nat := match o.guard with | some (j, _) => ((ops[j]?).bind (·.dst)).toList | none => []

def acOf (ops : Array Oper) (o : Oper) : SD → Ac Loc Cn
  | .skip => ⟨wrT o.dst (.v (.tuple #[])), (gTmp ops o).map .inl⟩
  | .act use pre d post chg =>
    ⟨wrT o.dst d ++ (if chg then post.map (fun x => (.inr x.1, some (.inr x.2))) ++ pre.map (fun x => (.inr x.1, none)) else []),
     (gTmp ops o).map .inl ++ (use.map (fun x => .inl x.1) ++ pre.map (fun x => .inr x.1))⟩

/-- One step fits the state f that it meets in the order of the text. -/
def fits {Y : Sy} (E : Env Y) (ops : Array Oper) (o : Oper) (f : Loc → Option Cn) : SD → Prop
  | .skip => (∀ t, o.dst = some t → t < E.N) ∧ ∃ j want t oj, o.guard = some (j, want) ∧ ops[j]? = some oj ∧ oj.dst = some t ∧ (fT f t = .v (.bool (!want)) ∨ fT f t = .v (.tuple #[]))
  | .act use pre d post chg => (∀ t, o.dst = some t → t < E.N) ∧
      (o.guard = none ∨ ∃ j b t oj, o.guard = some (j, b) ∧ ops[j]? = some oj ∧ oj.dst = some t ∧ fT f t = .v (.bool b)) ∧
      (∀ x ∈ use, fT f x.1 = x.2) ∧ (∀ x ∈ pre, fS f x.1 = some x.2) ∧ (chg = false → post = pre) ∧ Acts E o use pre d post


theorem look_mem {S : Store} {l : Nat} {o : AO} (h : look S l = some o) : (l, o) ∈ S := by
  induction S with
  | nil => simp [look] at h
  | cons x r ih =>
    obtain ⟨k, o'⟩ := x
    simp only [look] at h
    split at h
    · rename_i hk; cases h; subst hk; simp
    · exact List.mem_cons_of_mem _ (ih h)

theorem app_inr_skip {f : Loc → Option Cn} {ws r : List (Loc × Option Cn)} {l : Nat} (h : ∀ x ∈ ws, ∃ t, x.1 = .inl t) : app f (ws ++ r) (.inr l) = app f r (.inr l) := by
  induction ws with
  | nil => rfl
  | cons x ws ih =>
    obtain ⟨k, c⟩ := x
    obtain ⟨t, ht⟩ := h (k, c) (by simp)
    simp only at ht
    subst ht
    simp only [List.cons_append, app]
    rw [if_neg (by simp), ih (fun y hy => h y (by simp [hy]))]
theorem app_inl_skip {f : Loc → Option Cn} {r : List (Loc × Option Cn)} {t : Nat} (h : ∀ x ∈ r, ∃ l, x.1 = .inr l) : app f r (.inl t) = f (.inl t) := by
  refine app_not fun hm => ?_
  obtain ⟨x, hx, he⟩ := List.mem_map.1 hm
  obtain ⟨l, hl⟩ := h x hx
  rw [hl] at he
  cases he
theorem wrT_inl (dst : Option Tmp) (d : D) : ∀ x ∈ wrT dst d, ∃ t, x.1 = .inl t := by
  intro x hx
  unfold wrT at hx
  cases dst with
  | none => simp at hx
  | some t => simp at hx; exact ⟨t, by rw [hx]⟩

theorem app_store {f : Loc → Option Cn} {pre post : Store} {l : Nat} :
    fS (app f (post.map (fun x => (.inr x.1, some (.inr x.2))) ++ pre.map (fun x => (.inr x.1, none)))) l =
      if look pre l = none ∧ look post l = none then fS f l else look post l := by
  induction post with
  | nil =>
    induction pre with
    | nil => simp [app, fS, look]
    | cons x r ih =>
      obtain ⟨k, o⟩ := x
      simp only [List.map_nil, List.nil_append, List.map_cons, look] at ih ⊢
      by_cases hk : k = l
      · subst hk
        simp [fS, app]
      · simp only [fS, app, Sum.inr.injEq, hk, if_false] at ih ⊢
        exact ih
  | cons x r ih =>
    obtain ⟨k, o⟩ := x
    simp only [List.map_cons, List.cons_append, look] at ih ⊢
    by_cases hk : k = l
    · subst hk
      simp [fS, app]
    · simp only [fS, app, Sum.inr.injEq, hk, if_false] at ih ⊢
      exact ih

/-- The state behind a step. -/
theorem fS_wr {f : Loc → Option Cn} {ops : Array Oper} {o : Oper} {use : List (Nat × D)} {pre post : Store} {d : D} {chg : Bool} {l : Nat}
    (hpre : ∀ x ∈ pre, fS f x.1 = some x.2) (hchg : chg = false → post = pre) :
    fS (app f (acOf ops o (.act use pre d post chg)).wr) l = if look pre l = none ∧ look post l = none then fS f l else look post l := by
  have e : fS (app f (acOf ops o (.act use pre d post chg)).wr) l = fS (app f (if chg then post.map (fun x => (.inr x.1, some (.inr x.2))) ++ pre.map (fun x => (.inr x.1, none)) else [])) l := by
    unfold fS acOf
    simp only
    rw [app_inr_skip (wrT_inl _ _)]
  rw [e]
  cases chg with
  | true => simp only [if_true]; exact app_store
  | false =>
    have := hchg rfl
    subst this
    simp only [Bool.false_eq_true, if_false, app, and_self]
    split
    · rfl
    · rename_i hn
      cases hl : look post l with
      | none => exact absurd hl hn
      | some o' => exact hpre _ (look_mem hl)

theorem fT_wr {f : Loc → Option Cn} {dst : Option Tmp} {d : D} {r : List (Loc × Option Cn)} (h : ∀ x ∈ r, ∃ l, x.1 = .inr l) {t : Nat} :
    fT (app f (wrT dst d ++ r)) t = if dst = some t then d else fT f t := by
  unfold fT
  cases dst with
  | none => simp only [wrT, List.nil_append]; rw [app_inl_skip h]; simp
  | some u =>
    simp only [wrT, List.cons_append, List.nil_append, app]
    by_cases hu : u = t
    · subst hu; simp
    · simp only [Sum.inl.injEq, hu, if_false, Option.some.injEq]
      rw [app_inl_skip h]

theorem getD_put {a : Act} {dst : Option Tmp} {v : Value} {t : Nat} (hd : ∀ u, dst = some u → u < a.tmps.size) :
    (a.put dst v).tmps.getD t undef = if dst = some t then v else a.tmps.getD t undef := by
  cases dst with
  | none => simp [Act.put]
  | some u =>
    have hu := hd u rfl
    simp only [Act.put, Array.getD_eq_getD_getElem?, Option.some.injEq]
    by_cases h : u = t
    · subst h; simp [hu]
    · simp [Array.getElem?_setIfInBounds_ne h, h]
theorem put_size {a : Act} {dst : Option Tmp} {v : Value} : (a.put dst v).tmps.size = a.tmps.size := by
  cases dst <;> simp [Act.put]
theorem put_defers {a : Act} {dst : Option Tmp} {v : Value} : (a.put dst v).defers = a.defers := by
  cases dst <;> rfl

theorem wanted_of {ops : Array Oper} {o : Oper} {a : Act} {j : Nat} {want b : Bool} {t : Nat} {oj : Oper} (hg : o.guard = some (j, want)) (hj : ops[j]? = some oj) (ht : oj.dst = some t)
    (hv : a.tmps.getD t undef = .bool b) : Region.wanted o (yielded ops a.tmps) = (b == want) := by
  have hv' : a.tmps[t]? = some (.bool b) := by
    rw [Array.getD_eq_getD_getElem?] at hv
    cases h : a.tmps[t]? with
    | none => rw [h] at hv; simp [undef] at hv
    | some x => rw [h] at hv; simp at hv; rw [hv]
  simp only [Region.wanted, hg, yielded, hj, Option.bind_some, ht, hv']
  cases b <;> cases want <;> rfl

/-- One step of a region, carried out in the state that it meets. -/
theorem step_ok {Y : Sy} {E : Env Y} {ds : List Deferred} {ops : Array Oper} {o : Oper} {i : Nat} (hi : ops[i]? = some o) {sd : SD} {f fi : Loc → Option Cn}
    (hread : ∀ l ∈ (acOf ops o sd).touch, f l = fi l) (hfit : fits E ops o fi sd)
    {a : Act} {w : World} {g : G} (hr : Reach E w g) (hs : StOK E ds a w g f)
    (hfresh : ∀ use pre d post chg, sd = .act use pre d post chg → ∀ l, look pre l = none → look post l ≠ none → fS f l = none ∧ g.φ l = none)
    {K : Act → World → Prop} {Q : Exit → Act → World → Prop}
    (hK : ∀ a' w' g', Reach E w' g' → StOK E ds a' w' g' (app f (acOf ops o sd).wr) →
      (∀ l, g'.φ l ≠ none → g.φ l ≠ none ∨ ∃ use pre d post chg, sd = .act use pre d post chg ∧ look pre l = none ∧ look post l ≠ none) → K a' w') :
    wpOpIn E.F 0 E.P ops Q i K a w := by
  unfold wpOpIn
  simp only [hi]
  cases sd with
  | skip =>
    obtain ⟨hd, j, want, t, oj, hg, hj, ht, hv⟩ := hfit
    have hl : f (.inl t) = fi (.inl t) := hread _ (by simp [acOf, gTmp, hg, hj, ht])
    have hrep := hs.tm t
    have hfe : fT f t = fT fi t := by unfold fT; rw [hl]
    have hw : Region.wanted o (yielded ops a.tmps) = false := by
      rcases hv with hv | hv
      · rw [hfe, hv] at hrep
        simp only [Rep] at hrep
        rw [wanted_of hg hj ht hrep]; cases want <;> rfl
      · rw [hfe, hv] at hrep
        simp only [Rep] at hrep
        have hy : yielded ops a.tmps j = none := by
          simp only [yielded, hj, Option.bind_some, ht]
          rw [Array.getD_eq_getD_getElem?] at hrep
          cases h : a.tmps[t]? with
          | none => rfl
          | some x => rw [h] at hrep; simp at hrep; rw [hrep]
        simp [Region.wanted, hg, hy]
    rw [hw]
    simp only [Bool.false_eq_true, if_false]
    refine ⟨fun f' _ => E.hF f', hK _ _ g hr ⟨fun u => ?_, ?_, ?_, ?_, hs.mks⟩ (fun l h => .inl h)⟩
    · rw [getD_put (by rw [hs.sz]; exact hd)]
      have : fT (app f (acOf ops o SD.skip).wr) u = if o.dst = some u then .v (.tuple #[]) else fT f u := by
        have := fT_wr (f := f) (dst := o.dst) (d := .v (.tuple #[])) (r := []) (by simp) (t := u)
        simpa [acOf] using this
      rw [this]
      split
      · simp [Rep, undef]
      · exact hs.tm u
    · refine hs.st.sub fun l o' h => ?_
      rw [← h]
      unfold fS acOf
      simp only
      have := app_inr_skip (f := f) (ws := wrT o.dst (.v (.tuple #[]))) (r := []) (l := l) (wrT_inl _ _)
      simp only [List.append_nil, app] at this
      rw [this]
    · rw [put_size]; exact hs.sz
    · rw [put_defers]; exact hs.df
  | act use pre d post chg =>
    obtain ⟨hd, hg, huse, hpre, hchg, hact⟩ := hfit
    have htm : ∀ t, (.inl t : Loc) ∈ (acOf ops o (.act use pre d post chg)).touch → fT f t = fT fi t := by
      intro t h; unfold fT; rw [hread _ h]
    have hst : ∀ l, (.inr l : Loc) ∈ (acOf ops o (.act use pre d post chg)).touch → fS f l = fS fi l := by
      intro l h; unfold fS; rw [hread _ h]
    have hw : Region.wanted o (yielded ops a.tmps) = true := by
      rcases hg with hg | ⟨j, b, t, oj, hg, hj, ht, hv⟩
      · simp [Region.wanted, hg]
      · have hrep := hs.tm t
        rw [htm t (by simp [acOf, gTmp, hg, hj, ht]), hv] at hrep
        simp only [Rep] at hrep
        rw [wanted_of hg hj ht hrep]; cases b <;> rfl
    rw [hw]
    simp only [if_true]
    have hpre' : ∀ x ∈ pre, fS f x.1 = some x.2 := by
      intro x hx
      rw [hst x.1 (by simp only [acOf, List.mem_append, List.mem_map]; exact .inr (.inr ⟨x, hx, rfl⟩))]
      exact hpre x hx
    have hsub : ∀ l o', look pre l = some o' → fS f l = some o' := fun l o' h => hpre' _ (look_mem h)
    have hsp : SimS E w g (look pre) := hs.st.sub hsub
    refine hact a w g hr (fun x hx => ?_) hsp (fun l h1 h2 => (hfresh _ _ _ _ _ rfl l h1 h2).2) K Q ?_
    · have := hs.tm x.1
      rw [htm x.1 (by simp only [acOf, List.mem_append, List.mem_map]; exact .inr (.inl ⟨x, hx, rfl⟩)), huse x hx] at this
      exact this
    · intro v w' g' hm hv
      refine hK _ _ g' (hm.reach hr hsp) ⟨fun u => ?_, ?_, ?_, ?_, hs.mks.tr hm.tr hr.wf hsp.own_z⟩ (fun l h => ?_)
      · rw [getD_put (by rw [hs.sz]; exact hd)]
        have e : fT (app f (acOf ops o (.act use pre d post chg)).wr) u = if o.dst = some u then d else fT f u := by
          unfold acOf
          simp only
          refine fT_wr ?_
          intro x hx
          cases chg with
          | false => simp at hx
          | true =>
            simp only [if_true, List.mem_append, List.mem_map] at hx
            rcases hx with ⟨y, _, rfl⟩ | ⟨y, _, rfl⟩ <;> exact ⟨_, rfl⟩
        rw [e]
        split
        · exact hv
        · exact (hs.tm u).tr hm.tr hr.wf hsp.own_z
      · exact hs.st.frame hr.wf hsub hm (fun l h1 h2 => hfresh _ _ _ _ _ rfl l h1 h2) (fun l => fS_wr hpre' hchg)
      · rw [put_size]; exact hs.sz
      · rw [put_defers]; exact hs.df
      · rcases hm.dom l h with h1 | h1
        · exact .inl h1
        · cases hp : look pre l with
          | none => exact .inr ⟨_, _, _, _, _, rfl, hp, h1⟩
          | some o' =>
            obtain ⟨p, hp', _⟩ := hsp.obj l o' hp
            exact .inl (by rw [hp']; simp)
end Go.Abs
