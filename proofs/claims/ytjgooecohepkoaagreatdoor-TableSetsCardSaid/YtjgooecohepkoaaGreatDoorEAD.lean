/- An abstract walk over the model: what a function does, as a computation on described values; proved once for all functions. -/
import Derived.Test.YtjgooecohepkoaaGreatDoorEAC
set_option linter.unusedVariables false
set_option linter.unusedSimpArgs false
namespace Go.Abs
open Go

section ops
variable {Y : Sy} {E : Env Y} {o : Oper} {σ : List (Nat × D)} {S : Store} {nx : Nat} {K : KT}

theorem cellsAt.append {w : World} {ad : Addr} {x y : List Value} (h : cellsAt w ad x) (h2 : cellsAt w (ad.add x.length) y) : cellsAt w ad (x ++ y) := by
  intro j u hu
  by_cases hj : j < x.length
  · rw [List.getElem?_append_left hj] at hu; exact h j u hu
  · rw [List.getElem?_append_right (by omega)] at hu
    have := h2 _ u hu
    rwa [add_add, show x.length + (j - x.length) = j by omega] at this

theorem RepE.flat {w : World} {g : G} {ad : Addr} {size : Nat} : ∀ {es : List (List D)} {k : Nat}, RepE w g ad size k es → (∀ e ∈ es, e.length = size) → ∃ vs, cellsAt w (ad.add (k * size)) vs ∧ RepL w g vs es.flatten
  | [], _, _, _ => ⟨[], fun j u hu => by simp at hu, by simp [RepL]⟩
  | e :: r, k, h, hl => by
    simp only [RepE] at h
    obtain ⟨⟨x, hc, hx⟩, hr⟩ := h
    obtain ⟨y, hcy, hy⟩ := RepE.flat hr (fun e' he' => hl e' (by simp [he']))
    have hlen : x.length = size := hx.length.trans (hl e (by simp))
    refine ⟨x ++ y, hc.append ?_, ?_⟩
    · rw [add_add, hlen, show k * size + size = (k + 1) * size by rw [Nat.add_mul, Nat.one_mul]]
      exact hcy
    · simp only [List.flatten_cons]
      exact hx.append hy

/-! ### append -/
def srcD (size : Nat) (x : D) (K : List (List D) → Prop) : Prop :=
  match x with
  | .sl es sz => sz = size ∧ (∀ e ∈ es, e.all oneD = true) ∧ K es
  | .v (.slice none 0 _) => K []
  | _ => False
def vAppend {Y : Sy} (E : Env Y) (t : Nat) (s x : D) (S : Store) (nx : Nat) (K : KT) : Prop :=
  onSome (E.T t) fun ti => match ti.k with
  | .slice e => onSome (E.T e) fun fe => 0 < fe.size ∧ fe.zero.length = fe.size ∧ srcD fe.size x fun es2 => match s with
    | .v (.slice none 0 0) => (es2.length ≤ maxLen ∧ es2.length * fe.bytes ≤ 140737488355328) ∧ K (.own nx es2.length) (putS S nx (.row e fe.size es2)) (nx + 1) [] [nx]
    | .own l n => onSome (look S l) fun ob => match ob with
      | .row e' sz es => e' = e ∧ sz = fe.size ∧ n = es.length ∧ l < nx ∧ (es.length + es2.length ≤ maxLen ∧ (es.length + es2.length) * fe.bytes ≤ 140737488355328) ∧
          K (.own nx (es.length + es2.length)) (putS (delS S l) nx (.row e sz (es ++ es2))) (nx + 1) [l] [nx, l]
      | _ => False
    | _ => False
  | _ => False

theorem run_append_nil {P : Program} {w : World} {base : Nat} {t ty e : TypeId} {i : TypeInfo} {size : Nat} (ht : P.underlying t = some (.slice e)) (hi : P.info? e = some i)
    {v : Value} {n : Nat} {xs : List Value} (hown : w.ownsRow base e size v n xs) (c : Nat) : (Builtin.append_ #[t, t] ty #[v, .slice none 0 c]).run P w = .ok v w := by
  rcases hown.2 with ⟨rfl, rfl⟩ | ⟨g, cap, cur, rfl, _, _, hnc, _⟩
  · simp [Builtin.append_, run_underlying ht, sizeOf, typeInfo, hi, Builtin.lenOf, Builtin.firstCells]
  · simp [Builtin.append_, run_underlying ht, sizeOf, typeInfo, hi, Builtin.lenOf, Builtin.firstCells, hnc, storeCells]

/-- The source's cells, whatever its address. -/
theorem src_run {e t : Nat} {fe : TI} (hfe : E.T e = some fe) (hu : E.P.underlying t = some (.slice e)) (hsz : 0 < fe.size) (hz : fe.zero.length = fe.size) {w : World} {g : G} {xv : Value} {x : D}
    (hx : Rep w g xv x) {es2 : List (List D)} (hs : srcD fe.size x (· = es2)) (ty : TypeId) {base : Nat} {v : Value} {n : Nat} {xs : List Value} (hown : w.ownsRow base e fe.size v n xs) (hbase : base ≤ w.heap.size)
    (h63 : n + es2.length ≤ maxLen) (hby : (n + es2.length) * fe.bytes ≤ 140737488355328) :
    ∃ news, RepL w g news es2.flatten ∧ (∀ u ∈ es2, u.length = fe.size) ∧ ∃ v' w', (Builtin.append_ #[t, t] ty #[v, xv]).run E.P w = .ok v' w' ∧ w'.ownsRow base e fe.size v' (n + es2.length) (xs ++ news) ∧ w.grownBy w' v.ownBlock ∧
      (v' = .slice none 0 0 ↔ v = .slice none 0 0 ∧ es2.length = 0) ∧ (v'.ownBlock = v.ownBlock ∨ v'.ownBlock = some w.heap.size) := by
  obtain ⟨i, d, z, h1, h2, h3, h4, h5, h6, h7, _⟩ := ti_spec hfe
  have hzs : z.cells.size = fe.size := by have := congrArg List.length h7; simp at this; omega
  unfold srcD at hs
  split at hs
  · rename_i es sz
    obtain ⟨hsz', hone, rfl⟩ := hs
    subst hsz'
    simp only [Rep] at hx
    obtain ⟨a, c, rfl, hle, hmx, hls, hE⟩ := hx
    by_cases hemp : es = []
    · subst hemp
      refine ⟨[], by simp [RepL], by simp, ?_⟩
      cases a with
      | none =>
        refine ⟨v, w, ?_, by simpa using hown, World.grownBy.refl w _, by simp, .inl rfl⟩
        exact run_append_nil hu h1 hown c
      | some ad =>
        exact run_append_own_at (P := E.P) w base t ty e i z fe.size fe.bytes hu h1 h3 h5.symm h6.symm hzs hsz v n xs hown ad 0 c [] (by simp) (fun j u hu => by simp at hu) (by simp) h63 hby hbase
    · obtain ⟨ad, rfl, hZ, hre⟩ := hE hemp
      obtain ⟨news, hc, hl⟩ := hre.flat hls
      rw [Nat.zero_mul, add_zero] at hc
      have hl := hl.ofCl
      refine ⟨news, hl, hls, ?_⟩
      refine run_append_own_at (P := E.P) w base t ty e i z fe.size fe.bytes hu h1 h3 h5.symm h6.symm hzs hsz v n xs hown ad es.length c news ?_ hc ?_ h63 hby hbase
      · rw [hl.length, flatten_len hls]
      · refine repL_one hl ?_
        simp only [List.all_eq_true] at hone ⊢
        intro d hd
        obtain ⟨e', he', hd'⟩ := List.mem_flatten.1 hd
        exact hone e' he' d hd'
  · subst hs
    simp only [Rep] at hx
    subst hx
    refine ⟨[], by simp [RepL], by simp, v, w, ?_, by simpa using hown, World.grownBy.refl w _, by simp, .inl rfl⟩
    exact run_append_nil hu h1 hown _
  · exact hs.elim

theorem srcD_det {size : Nat} {x : D} {K : List (List D) → Prop} (h : srcD size x K) : ∃ es, K es ∧ srcD size x (· = es) := by
  unfold srcD at h ⊢
  split at h
  · exact ⟨_, h.2.2, h.1, h.2.1, rfl⟩
  · exact ⟨_, h, rfl⟩
  · exact h.elim

/-- What append leaves, as a row under a new name. -/
theorem move_append {e size : Nat} {w w' : World} {g : G} {pre : Store} {v v' : Value} {n : Nat} {xs : List Value} {es : List (List D)} (hr : Reach E w g) (hs : SimS E w g (look pre)) (hφ : g.φ nx = none) (hpn : look pre nx = none)
    (hown' : w'.ownsRow 0 e size v' n xs) (hg : w.grownBy w' v.ownBlock) (hob : v'.ownBlock = v.ownBlock ∨ v'.ownBlock = some w.heap.size)
    (hpre : ∀ b, v.ownBlock = some b → ownC g (look pre) b) (hn : n = es.length) (hls : ∀ e ∈ es, e.length = size) (hx : RepL w g xs es.flatten) :
    ∃ g', Move E (look pre) (look [(nx, .row e size es)]) w g w' g' ∧ Rep w' g' v' (.own nx n) := by
  subst hn
  -- the new name's block
  have hcase : (v' = .slice none 0 0 ∧ es.length = 0) ∨ ∃ b cap cur, v' = .slice (some ⟨b, 0, none⟩) es.length cap ∧ w'.heap[b]? = some (.cells cur e (0, 0)) ∧ es.length ≤ cap ∧ cap ≤ maxLen ∧ cur.size = cap * size ∧ cur.toList.take (es.length * size) = xs := by
    rcases hown'.2 with h | ⟨b, cap, cur, h1, _, h2, h3, h4, h5, h6⟩
    · exact .inl h
    · exact .inr ⟨b, cap, cur, h1, h2, h3, h4, h5, h6⟩
  have hztr : ∀ k, g.Z k → ¬ ownC g (look pre) k := hs.own_z
  have mk : ∀ p : Option Nat × Nat, (∀ b, p.1 = some b → (ownC g (look pre) b ∨ b = w.heap.size) ∧ b < w'.heap.size) → Tr (ownC g (look pre)) w g w' (named g nx p) ∧ WF w' (named g nx p) := by
    intro p hp
    refine ⟨⟨hg.os, hg.tape, hg.output, hg.size, fun b hb hn => hg.block b hb (fun e => hn (hpre b e.symm)), fun _ h => h, fun _ h _ _ => h, fun l q h => ?_, fun l b c h1 h2 => ?_⟩, ⟨fun b h => ?_, fun l b c h => ?_⟩⟩
    · simp only [named]; split
      · rename_i e; subst e; rw [hφ] at h; cases h
      · exact h
    · simp only [named] at h1; split at h1
      · cases h1
        rcases (hp b rfl).1 with h | h
        · exact .inr h
        · exact .inl (by omega)
      · rw [h1] at h2; cases h2
    · exact Nat.lt_of_lt_of_le (hr.wf.zlt b h) hg.size
    · simp only [named] at h; split at h
      · cases h; exact (hp b rfl).2
      · exact Nat.lt_of_lt_of_le (hr.wf.flt l b c h) hg.size
  rcases hcase with ⟨rfl, h0⟩ | ⟨b, cap, cur, rfl, hh, hle, hmx, hsz, htk⟩
  · have hes : es = [] := List.eq_nil_of_length_eq_zero h0
    subst hes
    obtain ⟨htr, hwf⟩ := mk (none, 0) (fun b h => by cases h)
    refine ⟨named g nx (none, 0), ⟨htr, hwf, ⟨fun l o h => ?_, fun l l' b x x' h1 h2 hne => ?_⟩, fun l h => ?_⟩, ?_⟩
    · simp only [look] at h; split at h
      · rename_i e; subst e; cases h
        exact ⟨(none, 0), by simp [named], .inl ⟨rfl, rfl⟩, fun b h => by cases h⟩
      · cases h
    · simp only [look] at h1 h2
      split at h1
      · split at h2
        · omega
        · simp at h2
      · simp at h1
    · simp only [named] at h; split at h
      · rename_i e; subst e; exact .inr (by simp [look])
      · exact .inl h
    · simp only [Rep]; exact .inr ⟨by simp [named], rfl, trivial⟩
  · have hblt : b < w'.heap.size := (Array.getElem?_eq_some_iff.1 hh).1
    have hbo : ownC g (look pre) b ∨ b = w.heap.size := by
      rcases hob with h | h
      · exact .inl (hpre b (by rw [← h]; rfl))
      · simp [Value.ownBlock] at h; exact .inr h
    obtain ⟨htr, hwf⟩ := mk (some b, cap) (fun b' h => by cases h; exact ⟨hbo, hblt⟩)
    refine ⟨named g nx (some b, cap), ⟨htr, hwf, ⟨fun l o h => ?_, fun l l' b x x' h1 h2 hne => ?_⟩, fun l h => ?_⟩, ?_⟩
    · simp only [look] at h; split at h
      · rename_i e'; subst e'; cases h
        refine ⟨(some b, cap), by simp [named], .inr ⟨b, cur, rfl, hh, hle, hmx, hsz, hls, ?_⟩, fun b' hb' => ?_⟩
        · refine repE_of_flat (vs := xs) ?_ hls (hx.tr htr hr.wf hztr)
          have := (cellsAt_block hh 0).take (es.length * size)
          rw [List.drop_zero, htk] at this
          rwa [Nat.zero_mul]
        · simp only [Option.some.injEq] at hb'
          subst hb'
          rcases hbo with ⟨l', x, hl', hp'⟩ | hb'
          · cases hpl : look pre l' with
            | none => exact absurd hpl hl'
            | some o' =>
              obtain ⟨q, hq, _, hn⟩ := hs.obj l' o' hpl
              rw [hp'] at hq
              cases hq
              exact hn b rfl
          · subst hb'
            exact ⟨fun hz => by have := hr.wf.zlt _ hz; omega, fun hlt => by have := hr.tr.size; omega⟩
      · cases h
    · simp only [look] at h1 h2
      split at h1
      · split at h2
        · omega
        · simp at h2
      · simp at h1
    · simp only [named] at h; split at h
      · rename_i e; subst e; exact .inr (by simp [look])
      · exact .inl h
    · simp only [Rep]; exact .inl ⟨b, cap, by simp [named], hle, rfl⟩

/-- A row as the kit has it. -/
theorem owns_of {e size : Nat} {w : World} {g : G} {l n : Nat} {es : List (List D)} {v : Value} (hs : SimS E w g (look [(l, .row e size es)])) (hv : Rep w g v (.own l n)) (hn : n = es.length) :
    ∃ xs, w.ownsRow 0 e size v n xs ∧ RepL w g xs es.flatten ∧ (∀ u ∈ es, u.length = size) ∧ ∀ b, v.ownBlock = some b → ownC g (look [(l, .row e size es)]) b := by
  subst hn
  obtain ⟨p, hp, hob⟩ := obj_of hs
  simp only [Rep] at hv
  rcases hob with ⟨rfl, rfl⟩ | ⟨b, arr, hb, hh, hle, hmx, hsz, hls, hre⟩
  · rcases hv with ⟨b, c, h1, _, _⟩ | ⟨_, _, rfl⟩
    · rw [hp] at h1; cases h1
    · exact ⟨[], ⟨by simp, .inl ⟨rfl, rfl⟩⟩, by simp [RepL], by simp, fun b h => by simp [Value.ownBlock] at h⟩
  · obtain ⟨pb, c⟩ := p
    simp only at hb
    subst hb
    rcases hv with ⟨b', c', h1, _, rfl⟩ | ⟨h1, _, _⟩
    · rw [hp] at h1
      cases h1
      obtain ⟨xs, hc, hl⟩ := hre.flat hls
      rw [Nat.zero_mul, add_zero] at hc
      have hxl : xs.length = es.length * size := by rw [hl.length, flatten_len hls]
      refine ⟨xs, ⟨hxl, .inr ⟨b, c, arr, rfl, Nat.zero_le _, hh, hle, hmx, hsz, ?_⟩⟩, hl, hls, fun b' h => ?_⟩
      · apply List.ext_getElem?
        intro i
        rw [List.getElem?_take]
        split
        · rename_i hi
          have := hc i (xs[i]'(by omega)) (by simp)
          rw [addr_add, Nat.zero_add, cell_of_row w b i arr e (0, 0) hh] at this
          simp only [Array.getElem?_toList]
          rw [this]
          simp
        · rw [List.getElem?_eq_none (by omega)]
      · simp [Value.ownBlock] at h
        subst h
        exact ⟨l, c, by simp [look], hp⟩
    · rw [hp] at h1; cases h1

theorem vAppend_ok {t t2 : Nat} {s x : Operand} (ho : o.op = .call { callee := .builtin .append, args := #[s, x], argTypes := #[t, t2] }) (h : t2 = t ∧ vAppend E t (evD E.gl σ s) (evD E.gl σ x) S nx K) : VopRes E o σ S nx K := by
  obtain ⟨rfl, ti, hti, h⟩ := h
  have hsm : s ∈ o.op.operands := by rw [ho]; simp [Op.operands, Call.operands]
  have hxm : x ∈ o.op.operands := by rw [ho]; simp [Op.operands, Call.operands]
  obtain ⟨i, desc, z, h1, h2, h3, h4, h5, h6, h7, h8, h9⟩ := ti_spec hti
  have hdef : ∀ c, o.op ≠ .defer c := by rw [ho]; simp
  have hrun : ∀ (a : Act) (w w' : World) (v' : Value), (Builtin.append_ #[t2, t2] o.type #[a.eval s, a.eval x]).run E.P w = .ok v' w' → (execOp a.eval o).run E.P w = .ok (.value v') w' := by
    intro a w w' v' h
    simp [execOp, ho, resolve, invoke, builtin, h]
  split at h
  · rename_i e hk
    rw [hk] at h8
    have := toTK_slice h8.symm
    subst this
    obtain ⟨fe, hfe, hsz, hzl, h⟩ := h
    obtain ⟨es2, h, hsrc⟩ := srcD_det h
    split at h
    · rename_i hev
      obtain ⟨⟨h63, hby⟩, hK⟩ := h
      refine VopRes.new (acts_of hdef fun a w g hr hu hs hf => ?_) hK
      have hrs := rep_eval hr hu hsm
      rw [hev] at hrs
      simp only [Rep] at hrs
      have hφ : g.φ nx = none := hf nx (by simp [look]) (by simp [look])
      obtain ⟨news, hnews, hls2, v', w', hr', hown', hg, _, hob⟩ := src_run hfe h2 hsz hzl (rep_eval hr hu hxm) hsrc o.type (World.ownsRow_nil w 0 e fe.size) (Nat.zero_le _) (by simpa using h63) (by simpa using hby)
      rw [Nat.zero_add, List.nil_append] at hown'
      obtain ⟨g', hm, hv⟩ := move_append (nx := nx) (pre := []) (v := .slice none 0 0) hr hs hφ (by simp [look]) hown' hg hob (fun b h => by simp [Value.ownBlock] at h) rfl hls2 hnews
      exact ⟨v', w', g', .inl (hrun a w w' v' (by rw [hrs]; exact hr')), hm, hv⟩
    · rename_i l n hev
      obtain ⟨ob, hob, h⟩ := h
      cases ob <;> simp only at h
      case row e' sz es =>
        obtain ⟨rfl, rfl, rfl, hlt, ⟨h63, hby⟩, hK⟩ := h
        refine VopRes.repl hob (acts_of hdef fun a w g hr hu hs hf => ?_) hK
        have hrs := rep_eval hr hu hsm
        rw [hev] at hrs
        have hlne : l ≠ nx := by omega
        have hφ : g.φ nx = none := hf nx (by simp [look, hlne]) (by simp [look])
        obtain ⟨xs, hown, hxl, hls, hpre⟩ := owns_of hs hrs rfl
        obtain ⟨news, hnews, hls2, v', w', hr', hown', hg, _, hob'⟩ := src_run hfe h2 hsz hzl (rep_eval hr hu hxm) hsrc o.type hown (Nat.zero_le _) h63 hby
        obtain ⟨g', hm, hv⟩ := move_append (nx := nx) hr hs hφ (by simp [look, hlne]) hown' hg hob' hpre (by simp) (es := es ++ es2) (fun u hu => by
          rcases List.mem_append.1 hu with h | h
          · exact hls u h
          · exact hls2 u h) (by rw [List.flatten_append]; exact hxl.append hnews)
        exact ⟨v', w', g', .inl (hrun a w w' v' hr'), hm, hv⟩
    · exact h.elim
  · exact h.elim
end ops
end Go.Abs
namespace Go.Abs
open Go

section ops
variable {Y : Sy} {E : Env Y} {o : Oper} {σ : List (Nat × D)} {S : Store} {nx : Nat} {K : KT}

/-! ### make -/
def vMakeSlice {Y : Sy} (E : Env Y) (fz : Bool) (t : Nat) (l c : D) (S : Store) (nx : Nat) (K : KT) : Prop :=
  onSome (E.T t) fun ti => onSome (intD l) fun n => onSome (intD c) fun m => match ti.k with
  | .slice e => onSome (E.T e) fun fe => 0 ≤ n ∧ n = m ∧ fe.zero.length = fe.size ∧ fe.bytes * n.toNat ≤ 281474976710656 ∧ n.toNat ≤ maxLen ∧
      vRow fz e fe.size (List.replicate n.toNat fe.zero) S nx K
  | _ => False
theorem vMakeSlice_ok {fz : Bool} {t : Nat} {l c : Operand} (ho : o.op = .makeSlice t l c) (h : vMakeSlice E fz t (evD E.gl σ l) (evD E.gl σ c) S nx K) : VopRes E o σ S nx K := by
  obtain ⟨ti, hti, n, hn, m, hm, h⟩ := h
  have hlm : l ∈ o.op.operands := by rw [ho]; simp [Op.operands]
  have hcm : c ∈ o.op.operands := by rw [ho]; simp [Op.operands]
  obtain ⟨i, desc, z, h1, h2, h3, h4, h5, h6, h7, h8, h9⟩ := ti_spec hti
  split at h
  · rename_i e hk
    obtain ⟨fe, hfe, h0, rfl, hzl, hby, hmx, hK⟩ := h
    rw [hk] at h8
    have := toTK_slice h8.symm
    subst this
    obtain ⟨ie, de, ze, g1, g2, g3, g4, g5, g6, g7, g8, g9⟩ := ti_spec hfe
    refine vRow_ok (by rw [ho]; simp) (fun x hx => by rw [(List.mem_replicate.1 hx).2]; exact hzl) (by simpa using hmx) (fun a w g hr hu => ?_) hK
    obtain ⟨kl, e1⟩ := rep_int (rep_eval hr hu hlm) hn
    obtain ⟨kc, e2⟩ := rep_int (rep_eval hr hu hcm) hm
    have hb' : (ie.bytes : Int) * n ≤ 281474976710656 := by
      rw [← g6]
      have h : ((fe.bytes * n.toNat : Nat) : Int) ≤ 281474976710656 := by omega
      rw [Int.natCast_mul, Int.toNat_of_nonneg h0] at h
      exact h
    have hr' := run_make (P := E.P) w t e ie ze h2 g1 g3 kl kc n n h0 (Int.le_refl _) hb' (by simp only [maxLen] at hmx; omega)
    have hzs : ze.cells.size = fe.size := by have := congrArg List.length g7; simp at this; omega
    refine ⟨madeCells ze.cells (n.toNat * ie.size), ?_, ?_⟩
    · simp [execOp, ho, e1, e2, hr']
    · rw [← g5, ← hzs]
      unfold madeCells
      rw [made_flat]
      refine repL_flatten ?_ _
      rw [g7]
      exact repL_constD w g _
  · exact h.elim

/-! ### Slice expressions -/
def boundD (x : Option D) (dflt : Int) : Option Int := match x with | none => some dflt | some d => intD d
def vSlice {Y : Sy} (E : Env Y) (t : Nat) (x : D) (lo hi : Option D) (S : Store) (nx : Nat) (K : KT) : Prop :=
  onSome (E.T t) fun ti => match ti.k, x with
  | .str, .s l => onSome (boundD lo 0) fun a => onSome (boundD hi l.length) fun b => 0 ≤ a ∧ a ≤ b ∧ b ≤ l.length ∧ K (.s ((l.take b.toNat).drop a.toNat)) S nx [] []
  | .slice e, .sl es sz => onSome (E.T e) fun fe => fe.size = sz ∧ onSome (boundD lo 0) fun a => onSome (boundD hi es.length) fun b => 0 ≤ a ∧ a ≤ b ∧ b ≤ es.length ∧ K (.sl ((es.take b.toNat).drop a.toNat) sz) S nx [] []
  | .slice e, .own l n => onSome (E.T e) fun _ => onSome (boundD lo 0) fun a => onSome (boundD hi n) fun b => a = 0 ∧ 0 ≤ b ∧ b ≤ n ∧ K (.own l b.toNat) S nx [] []
  | .slice e, .v (.slice none 0 0) => onSome (E.T e) fun _ => onSome (boundD lo 0) fun a => onSome (boundD hi 0) fun b => a = 0 ∧ b = 0 ∧ K (.v (.slice none 0 0)) S nx [] []
  | _, _ => False

theorem bound_run {P : Program} {w : World} {g : G} {y : Nat} {code : BoundsCode} {v : Value} {d : D} {n : Int} (h : Rep w g v d) (hd : intD d = some n) (h0 : 0 ≤ n) (h1 : n ≤ y) : (Instr.sliceBound v y code).run P w = .ok n.toNat w := by
  obtain ⟨k, rfl⟩ := rep_int h hd
  simp [Instr.sliceBound, asIntOf, h0, h1]
theorem bounds_run {P : Program} {w : World} {g : G} {isS : Bool} {len cap : Nat} {lo hi : Option Value} {lo' hi' : Option D} {a b : Int}
    (hl : ∀ v d, lo = some v → lo' = some d → Rep w g v d) (hh : ∀ v d, hi = some v → hi' = some d → Rep w g v d) (hls : lo.isSome = lo'.isSome) (hhs : hi.isSome = hi'.isSome)
    (ha : boundD lo' 0 = some a) (hb : boundD hi' len = some b) (h0 : 0 ≤ a) (h1 : a ≤ b) (h2 : b ≤ cap) : (Instr.sliceBounds isS len cap lo hi none).run P w = .ok (a.toNat, b.toNat, cap) w := by
  cases hi with
  | none =>
    cases hi' with
    | some _ => simp at hhs
    | none =>
      simp only [boundD, Option.some.injEq] at hb
      subst hb
      cases lo with
      | none =>
        cases lo' with
        | some _ => simp at hls
        | none => simp only [boundD, Option.some.injEq] at ha; subst ha; simp [Instr.sliceBounds]
      | some lv =>
        cases lo' with
        | none => simp at hls
        | some ld =>
          have := bound_run (P := P) (y := len) (code := .sliceB) (hl lv ld rfl rfl) ha h0 h1
          simp [Instr.sliceBounds, this]
  | some hv =>
    cases hi' with
    | none => simp at hhs
    | some hd =>
      have e1 := bound_run (P := P) (y := cap) (code := if isS then .sliceAcap else .sliceAlen) (hh hv hd rfl rfl) hb (by omega) h2
      cases lo with
      | none =>
        cases lo' with
        | some _ => simp at hls
        | none => simp only [boundD, Option.some.injEq] at ha; subst ha; simp [Instr.sliceBounds, e1]
      | some lv =>
        cases lo' with
        | none => simp at hls
        | some ld =>
          have e2 := bound_run (P := P) (y := b.toNat) (code := .sliceB) (hl lv ld rfl rfl) ha h0 (by omega)
          simp [Instr.sliceBounds, e1, e2]

theorem vSlice_ok {t : Nat} {x : Operand} {lo hi : Option Operand} (ho : o.op = .slice t x lo hi none) (h : vSlice E t (evD E.gl σ x) (lo.map (evD E.gl σ)) (hi.map (evD E.gl σ)) S nx K) : VopRes E o σ S nx K := by
  obtain ⟨ti, hti, h⟩ := h
  have hx : x ∈ o.op.operands := by rw [ho]; simp [Op.operands]
  have hlo : ∀ {a : Act} {w : World} {g : G}, Reach E w g → (∀ x ∈ useOf o σ, Rep w g (a.tmps.getD x.1 undef) x.2) → ∀ v d, lo.map a.eval = some v → lo.map (evD E.gl σ) = some d → Rep w g v d := by
    intro a w g hr hu v d h1 h2
    cases lo with
    | none => simp at h1
    | some l =>
      simp only [Option.map_some, Option.some.injEq] at h1 h2
      subst h1; subst h2
      exact rep_eval hr hu (by rw [ho]; simp [Op.operands])
  have hhi : ∀ {a : Act} {w : World} {g : G}, Reach E w g → (∀ x ∈ useOf o σ, Rep w g (a.tmps.getD x.1 undef) x.2) → ∀ v d, hi.map a.eval = some v → hi.map (evD E.gl σ) = some d → Rep w g v d := by
    intro a w g hr hu v d h1 h2
    cases hi with
    | none => simp at h1
    | some l =>
      simp only [Option.map_some, Option.some.injEq] at h1 h2
      subst h1; subst h2
      exact rep_eval hr hu (by rw [ho]; simp [Op.operands])
  obtain ⟨i, desc, z, h1, h2, h3, h4, h5, h6, h7, h8, h9⟩ := ti_spec hti
  split at h
  · rename_i l hk hev
    obtain ⟨p, hp, q, hq, h0, hpq, hql, hK⟩ := h
    rw [hk] at h8
    have := toTK_str h8.symm
    subst this
    refine VopRes.pure (acts_read (by rw [ho]; simp) fun a w g hr hu _ => ?_) hK
    have hrep := rep_eval hr hu hx
    rw [hev] at hrep
    simp only [Rep] at hrep
    have hb := bounds_run (P := E.P) (isS := false) (len := l.length) (cap := l.length) (lo := lo.map a.eval) (hi := hi.map a.eval) (hlo hr hu) (hhi hr hu) (by simp) (by simp) hp hq h0 hpq hql
    refine ⟨.string ((⟨⟨l⟩⟩ : ByteArray).extract p.toNat q.toNat), ?_, ?_⟩
    · have hsz : (⟨⟨l⟩⟩ : ByteArray).size = l.length := rfl
      simp [execOp, ho, Instr.sliceAt, Instr.slice, run_underlying h2, hrep, hsz, hb]
    · simp only [Rep]
      congr 1
      have : ((⟨⟨l⟩⟩ : ByteArray).extract p.toNat q.toNat).data = (⟨(l.take q.toNat).drop p.toNat⟩ : Array UInt8) := by
        rw [ByteArray.data_extract]
        apply Array.toList_inj.1
        simp [List.extract_eq_take_drop, List.drop_take]
      exact ByteArray.ext this
  · rename_i e es sz hk hev
    obtain ⟨fe, hfe, hsz, p, hp, q, hq, h0, hpq, hql, hK⟩ := h
    rw [hk] at h8
    have := toTK_slice h8.symm
    subst this
    refine VopRes.pure (acts_read (by rw [ho]; simp) fun a w g hr hu _ => ?_) hK
    have hrep := rep_eval hr hu hx
    rw [hev] at hrep
    simp only [Rep] at hrep
    obtain ⟨ba, c, e1, hle, hmx, hls, hE⟩ := hrep
    have hb := bounds_run (P := E.P) (isS := true) (len := es.length) (cap := c) (lo := lo.map a.eval) (hi := hi.map a.eval) (hlo hr hu) (hhi hr hu) (by simp) (by simp) hp hq h0 hpq (by omega)
    refine ⟨.slice (if c = p.toNat then ba else ba.map (·.add (p.toNat * sz))) (q.toNat - p.toNat) (c - p.toNat), ?_, ?_⟩
    · simp [execOp, ho, Instr.sliceAt, Instr.slice, run_underlying h2, e1, hb, run_sizeOf' hfe, hsz]
    · simp only [Rep]
      have hlen : ((es.take q.toNat).drop p.toNat).length = q.toNat - p.toNat := by simp; omega
      refine ⟨_, _, by rw [hlen], by rw [hlen]; omega, by omega, fun u hu => hls u (List.mem_of_mem_take (List.mem_of_mem_drop hu)), fun hne => ?_⟩
      have hlt : p.toNat < q.toNat := by
        have : 0 < ((es.take q.toNat).drop p.toNat).length := List.length_pos_iff.2 hne
        omega
      obtain ⟨ad, rfl, hz, hre⟩ := hE (by intro h; subst h; simp at hql; omega)
      rw [if_neg (by omega)]
      refine ⟨ad.add (p.toNat * sz), rfl, by rw [add_block]; exact hz, RepE.of_get fun k u hu => ?_⟩
      rw [List.getElem?_drop, List.getElem?_take] at hu
      split at hu
      · obtain ⟨vs, hc, hl⟩ := hre.get hu
        refine ⟨vs, ?_, hl⟩
        rw [add_add, Nat.zero_add] at *
        rw [← Nat.add_mul]
        exact hc
      · cases hu
  · rename_i e l n hk hev
    obtain ⟨fe, hfe, p, hp, q, hq, rfl, h0, hql, hK⟩ := h
    rw [hk] at h8
    have := toTK_slice h8.symm
    subst this
    refine VopRes.pure (acts_read (by rw [ho]; simp) fun a w g hr hu hs => ?_) hK
    have hrep := rep_eval hr hu hx
    rw [hev] at hrep
    simp only [Rep] at hrep
    rcases hrep with ⟨b, c, hφ, hnc, e1⟩ | ⟨hφ, rfl, e1⟩
    · have hqc : q ≤ (c : Int) := by omega
      · have hb := bounds_run (P := E.P) (isS := true) (len := n) (cap := c) (lo := lo.map a.eval) (hi := hi.map a.eval) (hlo hr hu) (hhi hr hu) (by simp) (by simp) hp hq (Int.le_refl _) h0 hqc
        refine ⟨.slice (some ⟨b, 0, none⟩) q.toNat c, ?_, ?_⟩
        · simp [execOp, ho, Instr.sliceAt, Instr.slice, run_underlying h2, e1, hb, run_sizeOf' hfe, add_zero]
        · simp only [Rep]
          exact .inl ⟨b, c, hφ, by omega, rfl⟩
    · have hb := bounds_run (P := E.P) (isS := true) (len := 0) (cap := 0) (lo := lo.map a.eval) (hi := hi.map a.eval) (hlo hr hu) (hhi hr hu) (by simp) (by simp) hp hq (Int.le_refl _) h0 (by simpa using hql)
      have hq0 : q.toNat = 0 := by simp at hql; omega
      refine ⟨.slice none 0 0, ?_, ?_⟩
      · simp [execOp, ho, Instr.sliceAt, Instr.slice, run_underlying h2, e1, hb, run_sizeOf' hfe, hq0]
      · simp only [Rep]
        exact .inr ⟨hφ, hq0, trivial⟩
  · rename_i e hk hev
    obtain ⟨fe, hfe, p, hp, q, hq, rfl, rfl, hK⟩ := h
    rw [hk] at h8
    have := toTK_slice h8.symm
    subst this
    refine VopRes.pure (acts_read (by rw [ho]; simp) fun a w g hr hu _ => ?_) hK
    have hrep := rep_eval hr hu hx
    rw [hev] at hrep
    simp only [Rep] at hrep
    have hb := bounds_run (P := E.P) (isS := true) (len := 0) (cap := 0) (lo := lo.map a.eval) (hi := hi.map a.eval) (hlo hr hu) (hhi hr hu) (by simp) (by simp) hp hq (Int.le_refl _) (Int.le_refl _) (by simp)
    refine ⟨.slice none 0 0, ?_, by simp [Rep]⟩
    simp [execOp, ho, Instr.sliceAt, Instr.slice, run_underlying h2, hrep, hb, run_sizeOf' hfe]
  · exact h.elim
end ops
end Go.Abs
