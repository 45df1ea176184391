/- An abstract walk over the model: what a function does, as a computation on described values; proved once for all functions. -/
import Derived.Test.YtjgooecohepkoaaGreatDoorEAM
import Derived.Below
set_option linter.unusedVariables false
set_option linter.unusedSimpArgs false
namespace Go.Abs
open Go
/-- What a contract of the kit leaves, a new row among it ('Below'), as a row under a new name. -/
theorem move_below {Y : Sy} {E : Env Y} {nx e size : Nat} {w w' : World} {g : G} {v : Value} {n : Nat} {xs : List Value} {es : List (List D)} (hr : Reach E w g) (hφ : g.φ nx = none)
    (hb : RowKit.Below w.heap.size w w') (hown : w'.ownsRow w.heap.size e size v n xs) (hn : n = es.length) (hls : ∀ e ∈ es, e.length = size) (hx : RepL w g xs es.flatten) :
    ∃ g', Move E (look []) (look [(nx, .row e size es)]) w g w' g' ∧ Rep w' g' v (.own nx n) := by
  subst hn
  have hz : ∀ k, g.Z k → ¬ ownC g (look []) k := (simS_nil (E := E) (w := w)).own_z
  have mk : ∀ p : Option Nat × Nat, (∀ b, p.1 = some b → w.heap.size ≤ b ∧ b < w'.heap.size) → Tr (ownC g (look [])) w g w' (named g nx p) ∧ WF w' (named g nx p) := by
    intro p hp
    refine ⟨⟨hb.os, hb.tape, hb.output, hb.size, fun b hlt _ => hb.block b hlt, fun _ h => h, fun _ h _ _ => h, fun l q h => ?_, fun l b c h1 h2 => ?_⟩, ⟨fun b h => ?_, fun l b c h => ?_⟩⟩
    · simp only [named]; split
      · rename_i e; subst e; rw [hφ] at h; cases h
      · exact h
    · simp only [named] at h1; split at h1
      · cases h1; exact .inl (hp b rfl).1
      · rw [h1] at h2; cases h2
    · exact Nat.lt_of_lt_of_le (hr.wf.zlt b h) hb.size
    · simp only [named] at h; split at h
      · cases h; exact (hp b rfl).2
      · exact Nat.lt_of_lt_of_le (hr.wf.flt l b c h) hb.size
  have dom : ∀ p l, (named g nx p).φ l ≠ none → g.φ l ≠ none ∨ look [(nx, AO.row e size es)] l ≠ none := by
    intro p l h
    simp only [named] at h; split at h
    · rename_i e; subst e; exact .inr (by simp [look])
    · exact .inl h
  have apart : ∀ g' l l' b x x', look [(nx, AO.row e size es)] l ≠ none → look [(nx, AO.row e size es)] l' ≠ none → l ≠ l' → (g' : G).φ l = some (some b, x) → g'.φ l' = some (some b, x') → False := by
    intro g' l l' b x x' h1 h2 hne _ _
    simp only [look] at h1 h2
    split at h1
    · split at h2
      · omega
      · simp at h2
    · simp at h1
  rcases hown.2 with ⟨rfl, h0⟩ | ⟨b, cap, cur, rfl, hge, hh, hle, hmx, hsz, htk⟩
  · have hes : es = [] := List.eq_nil_of_length_eq_zero h0
    subst hes
    obtain ⟨htr, hwf⟩ := mk (none, 0) (fun b h => by cases h)
    refine ⟨named g nx (none, 0), ⟨htr, hwf, ⟨fun l o h => ?_, apart _⟩, dom _⟩, ?_⟩
    · simp only [look] at h; split at h
      · rename_i e; subst e; cases h
        exact ⟨(none, 0), by simp [named], .inl ⟨rfl, rfl⟩, fun b h => by cases h⟩
      · cases h
    · simp only [Rep]; exact .inr ⟨by simp [named], rfl, trivial⟩
  · have hblt : b < w'.heap.size := (Array.getElem?_eq_some_iff.1 hh).1
    obtain ⟨htr, hwf⟩ := mk (some b, cap) (fun b' h => by cases h; exact ⟨hge, hblt⟩)
    refine ⟨named g nx (some b, cap), ⟨htr, hwf, ⟨fun l o h => ?_, apart _⟩, dom _⟩, ?_⟩
    · simp only [look] at h; split at h
      · rename_i e'; subst e'; cases h
        refine ⟨(some b, cap), by simp [named], .inr ⟨b, cur, rfl, hh, hle, hmx, hsz, hls, ?_⟩, fun b' hb' => ?_⟩
        · refine repE_of_flat (vs := xs) ?_ hls (hx.tr htr hr.wf hz)
          have := (cellsAt_block hh 0).take (es.length * size)
          rw [List.drop_zero, htk] at this
          rwa [Nat.zero_mul]
        · simp only [Option.some.injEq] at hb'
          subst hb'
          exact ⟨fun hz => by have := hr.wf.zlt _ hz; omega, fun hlt => by have := hr.tr.size; omega⟩
      · cases h
    · simp only [Rep]; exact .inl ⟨b, cap, by simp [named], hle, rfl⟩
end Go.Abs
