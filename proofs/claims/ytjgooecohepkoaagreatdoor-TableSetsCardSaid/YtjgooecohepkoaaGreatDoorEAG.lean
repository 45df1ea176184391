/- An abstract walk over the model: what a function does, as a computation on described values; proved once for all functions. -/
import Derived.Test.YtjgooecohepkoaaGreatDoorEAF
import Derived.Laws.BytesString
import Derived.Laws.Externs
import Derived.WalkSpells
import Derived.Lib.SliceRun
set_option linter.unusedVariables false
set_option linter.unusedSimpArgs false
namespace Go.Abs
open Go

section ops
variable {Y : Sy} {E : Env Y} {o : Oper} {σ : List (Nat × D)} {S : Store} {nx : Nat} {K : KT}

/-! ### Ranging over a string -/
def vRange {Y : Sy} (E : Env Y) (t : Nat) (x : D) (S : Store) (nx : Nat) (K : KT) : Prop :=
  onSome (E.T t) fun ti => match ti.k, x with
  | .str, .s l => K (.it nx) (putS S nx (.si l 0)) (nx + 1) [] [nx]
  | _, _ => False
theorem vRange_ok {t : Nat} {x : Operand} (ho : o.op = .range t x) (h : vRange E t (evD E.gl σ x) S nx K) : VopRes E o σ S nx K := by
  obtain ⟨ti, hti, h⟩ := h
  have hx : x ∈ o.op.operands := by rw [ho]; simp [Op.operands]
  obtain ⟨i, desc, z, h1, h2, h3, h4, h5, h6, h7, h8, h9⟩ := ti_spec hti
  split at h
  · rename_i l hk hev
    rw [hk] at h8
    have := toTK_str h8.symm
    subst this
    refine VopRes.new (acts_of (by rw [ho]; simp) fun a w g hr hu _ hf => ?_) h
    have hφ : g.φ nx = none := hf nx (by simp [look]) (by simp [look])
    have hrep := rep_eval hr hu hx
    rw [hev] at hrep
    simp only [Rep] at hrep
    refine ⟨.pointer (some ⟨w.heap.size, 0, none⟩), w.alloc (.stringIter ⟨⟨l⟩⟩ 0), _, .inl ?_, move_alloc_named hr hφ _ 0 ?_, ?_⟩
    · simp [execOp, ho, Instr.range, run_underlying h2, hrep, newObj, Sem.run]
    · exact ⟨_, rfl, heap_alloc_new w _⟩
    · simp only [Rep]
      exact ⟨_, 0, by simp [named], rfl⟩
  · exact h.elim

def vNext (x : D) (S : Store) (nx : Nat) (K : KT) : Prop := match x with
  | .it l => onSome (look S l) fun ob => match ob with
    | .si s pos => (pos < s.length → K (.tup [.v (.bool true), .v (.int .i64 pos), .v (.int .i32 (Utf8.decode ⟨⟨s⟩⟩ pos).1)]) (putS S l (.si s (pos + (Utf8.decode ⟨⟨s⟩⟩ pos).2))) nx [l] [l]) ∧
        (¬ pos < s.length → K (.tup [.v (.bool false)]) S nx [l] [])
    | _ => False
  | _ => False
theorem vNext_ok {x : Operand} (ho : o.op = .next x true) (h : vNext (evD E.gl σ x) S nx K) : VopRes E o σ S nx K := by
  have hx : x ∈ o.op.operands := by rw [ho]; simp [Op.operands]
  have hdef : ∀ c, o.op ≠ .defer c := by rw [ho]; simp
  unfold vNext at h
  split at h
  · rename_i l hev
    obtain ⟨ob, hob, h⟩ := h
    cases ob <;> simp only at h
    case si s pos =>
      have hsz : (⟨⟨s⟩⟩ : ByteArray).size = s.length := rfl
      by_cases hlt : pos < s.length
      · refine VopRes.write hob (acts_of hdef fun a w g hr hu hs _ => ?_) (h.1 hlt)
        have hrep := rep_eval hr hu hx
        rw [hev] at hrep
        simp only [Rep] at hrep
        obtain ⟨b, c, hφ, e1⟩ := hrep
        obtain ⟨p, hφ', b', h2, hh⟩ := obj_of hs
        rw [hφ] at hφ'
        cases hφ'
        cases h2
        have hbl : b < w.heap.size := (Array.getElem?_eq_some_iff.1 hh).1
        refine ⟨.tuple #[.bool true, .int .i64 pos, .int .i32 (Utf8.decode ⟨⟨s⟩⟩ pos).1], { w with heap := w.heap.setIfInBounds b (.stringIter ⟨⟨s⟩⟩ (pos + (Utf8.decode ⟨⟨s⟩⟩ pos).2)) }, g, .inl ?_, move_write hr hs hφ rfl rfl rfl (by simp) (fun k hk => by simp [Array.getElem?_setIfInBounds_ne (Ne.symm hk)]) ?_, ?_⟩
        · simp [execOp, ho, Instr.next, e1, getObj, setObj, Sem.run, hh, hsz, hlt, goInt]
        · exact ⟨b, rfl, by simp [hbl]⟩
        · simp only [Rep]
          exact ⟨_, rfl, by simp [RepL, Rep]⟩
      · refine VopRes.read hob (acts_read hdef fun a w g hr hu hs => ?_) (h.2 hlt)
        have hrep := rep_eval hr hu hx
        rw [hev] at hrep
        simp only [Rep] at hrep
        obtain ⟨b, c, hφ, e1⟩ := hrep
        obtain ⟨p, hφ', b', h2, hh⟩ := obj_of hs
        rw [hφ] at hφ'
        cases hφ'
        cases h2
        refine ⟨.tuple #[.bool false], ?_, ?_⟩
        · simp [execOp, ho, Instr.next, e1, getObj, Sem.run, hh, hsz, hlt]
        · simp only [Rep]
          exact ⟨_, rfl, by simp [RepL, Rep]⟩
  · exact h.elim

/-! ### append of what is one's own -/
theorem src_runO {e t : Nat} {fe : TI} (hfe : E.T e = some fe) (hu : E.P.underlying t = some (.slice e)) (hsz : 0 < fe.size) (hz : fe.zero.length = fe.size) {w : World} {g : G} {xv : Value} {l2 n2 : Nat}
    (hx : Rep w g xv (.own l2 n2)) {p : Option Nat × Nat} (hp : g.φ l2 = some p) {e2 : TypeId} {es : List (List D)} (hob : ObjRep w g p (.row e2 fe.size es)) (hn : n2 = es.length) (hone : ∀ u ∈ es, u.all oneD = true)
    (ty : TypeId) {base : Nat} {v : Value} {n : Nat} {xs : List Value} (hown : w.ownsRow base e fe.size v n xs) (hbase : base ≤ w.heap.size)
    (h63 : n + es.length ≤ maxLen) (hby : (n + es.length) * fe.bytes ≤ 140737488355328) :
    ∃ news, RepL w g news es.flatten ∧ (∀ u ∈ es, u.length = fe.size) ∧ ∃ v' w', (Builtin.append_ #[t, t] ty #[v, xv]).run E.P w = .ok v' w' ∧ w'.ownsRow base e fe.size v' (n + es.length) (xs ++ news) ∧ w.grownBy w' v.ownBlock ∧
      (v'.ownBlock = v.ownBlock ∨ v'.ownBlock = some w.heap.size) := by
  subst hn
  obtain ⟨i, d, z, h1, h2, h3, h4, h5, h6, h7, _⟩ := ti_spec hfe
  have hzs : z.cells.size = fe.size := by have := congrArg List.length h7; simp at this; omega
  simp only [Rep] at hx
  rcases hx with ⟨b, c, hφ, hnc, rfl⟩ | ⟨hφ, hn0, rfl⟩
  · rw [hp] at hφ
    cases hφ
    rcases hob with ⟨h1', _⟩ | ⟨b', arr, h1', hh, hle, hmx, hasz, hls, hre⟩
    · cases h1'
    · cases h1'
      obtain ⟨news, hc, hl⟩ := hre.flat hls
      rw [Nat.zero_mul, add_zero] at hc
      refine ⟨news, hl, hls, ?_⟩
      obtain ⟨v', w', q1, q2, q3, q4, q5⟩ := run_append_own_at (P := E.P) w base t ty e i z fe.size fe.bytes hu h1 h3 h5.symm h6.symm hzs hsz v n xs hown ⟨b, 0, none⟩ es.length c news (by rw [hl.length, flatten_len hls]) hc (by
        refine repL_one hl ?_
        simp only [List.all_eq_true] at hone ⊢
        intro d hd
        obtain ⟨e', he', hd'⟩ := List.mem_flatten.1 hd
        exact hone e' he' d hd') h63 hby hbase
      exact ⟨v', w', q1, q2, q3, q5⟩
  · have := List.eq_nil_of_length_eq_zero hn0
    subst this
    exact ⟨[], by simp [RepL], by simp, v, w, run_append_nil hu h1 hown 0, by simpa using hown, World.grownBy.refl w _, .inl rfl⟩

/-- A move over more names: the others stay. -/
theorem Move.frame {pre post : Store} {w w' : World} {g g' : G} (hr : Reach E w g) (l2 : Nat) (o2 : AO) (hs : SimS E w g (look (pre ++ [(l2, o2)]))) (h2 : look pre l2 = none) (h3 : look post l2 = none) (hm : Move E (look pre) (look post) w g w' g') (hnew : ∀ l, look pre l = none → look post l ≠ none → g.φ l = none) :
    Move E (look (pre ++ [(l2, o2)])) (look (post ++ [(l2, o2)])) w g w' g' := by
  have hsub : ∀ l o, look pre l = some o → look (pre ++ [(l2, o2)]) l = some o := by
    intro l o h; rw [look_append, h]; rfl
  refine ⟨hm.tr.mono fun b ⟨l, x, h, hp⟩ => ⟨l, x, ?_, hp⟩, hm.wf, ?_, fun l hl => ?_⟩
  · cases ho : look pre l with
    | none => exact absurd ho h
    | some o => rw [hsub l o ho]; simp
  · refine hs.frame hr.wf hsub hm (fun l q1 q2 => ⟨?_, hnew l q1 q2⟩) fun l => ?_
    · rw [look_append, q1]
      simp only [Option.none_or, look]
      split
      · rename_i e; subst e; exact absurd h3 q2
      · rfl
    · rw [look_append, look_append]
      cases e1 : look pre l with
      | some o =>
        have hne : l ≠ l2 := by rintro rfl; rw [h2] at e1; cases e1
        cases e2 : look post l with
        | some o' => simp
        | none => simp [look, Ne.symm hne]
      | none =>
        cases e2 : look post l with
        | some o' => simp
        | none => simp
  · rcases hm.dom l hl with h | h
    · exact .inl h
    · refine .inr ?_
      rw [look_append]
      cases e : look post l with
      | none => exact absurd e h
      | some o => simp

def vAppendO {Y : Sy} (E : Env Y) (t : Nat) (s : D) (l2 n2 : Nat) (S : Store) (nx : Nat) (K : KT) : Prop :=
  onSome (E.T t) fun ti => match ti.k with
  | .slice e => onSome (E.T e) fun fe => 0 < fe.size ∧ fe.zero.length = fe.size ∧ onSome (look S l2) fun ob2 => match ob2 with
    | .row e2 sz2 es2 => sz2 = fe.size ∧ n2 = es2.length ∧ (∀ u ∈ es2, u.all oneD = true) ∧ l2 < nx ∧ (match s with
      | .v (.slice none 0 0) => (es2.length ≤ maxLen ∧ es2.length * fe.bytes ≤ 140737488355328) ∧ K (.own nx es2.length) (putAll (delAll S [l2]) [(nx, .row e fe.size es2), (l2, .row e2 sz2 es2)]) (nx + 1) [l2] [nx, l2, l2]
      | .own l n => onSome (look S l) fun ob => match ob with
        | .row e' sz es => e' = e ∧ sz = fe.size ∧ n = es.length ∧ l < nx ∧ l ≠ l2 ∧ (es.length + es2.length ≤ maxLen ∧ (es.length + es2.length) * fe.bytes ≤ 140737488355328) ∧
            K (.own nx (es.length + es2.length)) (putAll (delAll S [l, l2]) [(nx, .row e sz (es ++ es2)), (l2, .row e2 sz2 es2)]) (nx + 1) [l, l2] [nx, l2, l, l2]
        | _ => False
      | _ => False)
    | _ => False
  | _ => False
theorem vAppendO_ok {t t2 : Nat} {s x : Operand} {l2 n2 : Nat} (ho : o.op = .call { callee := .builtin .append, args := #[s, x], argTypes := #[t, t2] }) (hxe : evD E.gl σ x = .own l2 n2) (h : t2 = t ∧ vAppendO E t (evD E.gl σ s) l2 n2 S nx K) : VopRes E o σ S nx K := by
  obtain ⟨rfl, ti, hti, h⟩ := h
  have hsm : s ∈ o.op.operands := by rw [ho]; simp [Op.operands, Call.operands]
  have hxm : x ∈ o.op.operands := by rw [ho]; simp [Op.operands, Call.operands]
  obtain ⟨i, desc, z, h1, h2, h3, h4, h5, h6, h7, h8, h9⟩ := ti_spec hti
  have hdef : ∀ c, o.op ≠ .defer c := by rw [ho]; simp
  have hrun : ∀ (a : Act) (w w' : World) (v' : Value), (Builtin.append_ #[t2, t2] o.type #[a.eval s, a.eval x]).run E.P w = .ok v' w' → (execOp a.eval o).run E.P w = .ok (.value v') w' := by
    intro a w w' v' h
    simp [execOp, ho, resolve, invoke, builtin, h]
  split at h
  · rename_i e hk
    rw [hk] at h8
    have := toTK_slice h8.symm
    subst this
    obtain ⟨fe, hfe, hsz, hzl, ob2, hob2, h⟩ := h
    cases ob2 <;> simp only at h
    case row e2 sz2 es2 =>
      obtain ⟨rfl, hn2, hone, hl2, h⟩ := h
      have hl2ne : l2 ≠ nx := by omega
      split at h
      · rename_i hev
        obtain ⟨⟨h63, hby⟩, hK⟩ := h
        refine VopRes.touch (pre := [(l2, .row e2 fe.size es2)]) (post := [(nx, .row e fe.size es2), (l2, .row e2 fe.size es2)]) (nx' := nx + 1) ⟨?_, Nat.le_succ _, ?_⟩ (acts_of hdef fun a w g hr hu hs hf => ?_) hK
        · intro y hy; simp at hy; subst hy; exact hob2
        · intro y hy hn
          simp at hy
          rcases hy with rfl | rfl
          · exact ⟨Nat.le_refl _, Nat.lt_succ_self _⟩
          · simp [look] at hn
        · have hrs := rep_eval hr hu hsm
          rw [hev] at hrs
          simp only [Rep] at hrs
          have hrx := rep_eval hr hu hxm
          rw [hxe] at hrx
          have hφ : g.φ nx = none := hf nx (by simp [look, hl2ne]) (by simp [look])
          obtain ⟨p, hp, hor⟩ := obj_of hs
          obtain ⟨news, hnews, hls2, v', w', hr', hown', hg, hob⟩ := src_runO hfe h2 hsz hzl hrx hp hor hn2 hone o.type (World.ownsRow_nil w 0 e fe.size) (Nat.zero_le _) (by simpa using h63) (by simpa using hby)
          rw [Nat.zero_add, List.nil_append] at hown'
          obtain ⟨g', hm, hv⟩ := move_append (nx := nx) (pre := []) (v := .slice none 0 0) hr simS_nil hφ (by simp [look]) hown' hg hob (fun b h => by simp [Value.ownBlock] at h) rfl hls2 hnews
          have hm' := Move.frame hr l2 (.row e2 fe.size es2) (pre := []) hs (by simp [look]) (by simp [look, Ne.symm hl2ne]) hm (fun l q1 q2 => by
            simp only [look] at q2
            split at q2
            · rename_i e'; subst e'; exact hφ
            · exact absurd rfl q2)
          exact ⟨v', w', g', .inl (hrun a w w' v' (by rw [hrs]; exact hr')), hm', hv⟩
      · rename_i l n hev
        obtain ⟨ob, hob, h⟩ := h
        cases ob <;> simp only at h
        case row e' sz es =>
          obtain ⟨rfl, rfl, rfl, hlt, hne, ⟨h63, hby⟩, hK⟩ := h
          have hlne : l ≠ nx := by omega
          refine VopRes.touch (pre := [(l, .row e' fe.size es), (l2, .row e2 fe.size es2)]) (post := [(nx, .row e' fe.size (es ++ es2)), (l2, .row e2 fe.size es2)]) (nx' := nx + 1) ⟨?_, Nat.le_succ _, ?_⟩ (acts_of hdef fun a w g hr hu hs hf => ?_) hK
          · intro y hy; simp at hy; rcases hy with rfl | rfl
            · exact hob
            · exact hob2
          · intro y hy hn
            simp at hy
            rcases hy with rfl | rfl
            · exact ⟨Nat.le_refl _, Nat.lt_succ_self _⟩
            · simp [look, hne] at hn
          · have hrs := rep_eval hr hu hsm
            rw [hev] at hrs
            have hrx := rep_eval hr hu hxm
            rw [hxe] at hrx
            have hφ : g.φ nx = none := hf nx (by simp [look, hlne, hl2ne]) (by simp [look])
            obtain ⟨p, hp, hor, _⟩ := hs.obj l2 (.row e2 fe.size es2) (by simp [look, hne])
            have hs1 : SimS E w g (look [(l, .row e' fe.size es)]) := hs.sub fun l' o' h => by
              simp only [look] at h ⊢
              split at h
              · rename_i e1; rw [if_pos e1]; exact h
              · cases h
            obtain ⟨xs, hown, hxl, hls, hpre⟩ := owns_of hs1 hrs rfl
            obtain ⟨news, hnews, hls2, v', w', hr', hown', hg, hob'⟩ := src_runO hfe h2 hsz hzl hrx hp hor hn2 hone o.type hown (Nat.zero_le _) h63 hby
            obtain ⟨g', hm, hv⟩ := move_append (nx := nx) hr hs1 hφ (by simp [look, hlne]) hown' hg hob' hpre (by simp) (es := es ++ es2) (fun u hu => by
              rcases List.mem_append.1 hu with h | h
              · exact hls u h
              · exact hls2 u h) (by rw [List.flatten_append]; exact hxl.append hnews)
            have hm' := Move.frame hr l2 (.row e2 fe.size es2) hs (by simp [look, hne]) (by simp [look, Ne.symm hl2ne]) hm (fun l' q1 q2 => by
              simp only [look] at q2
              split at q2
              · rename_i e'; subst e'; exact hφ
              · exact absurd rfl q2)
            exact ⟨v', w', g', .inl (hrun a w w' v' hr'), hm', hv⟩
      · exact h.elim
  · exact h.elim
def vAppendA {Y : Sy} (E : Env Y) (t : Nat) (s x : D) (S : Store) (nx : Nat) (K : KT) : Prop := match x with
  | .own l2 n2 => vAppendO E t s l2 n2 S nx K
  | x => vAppend E t s x S nx K
theorem vAppendA_ok {t t2 : Nat} {s x : Operand} (ho : o.op = .call { callee := .builtin .append, args := #[s, x], argTypes := #[t, t2] }) (h : t2 = t ∧ vAppendA E t (evD E.gl σ s) (evD E.gl σ x) S nx K) : VopRes E o σ S nx K := by
  obtain ⟨h1, h⟩ := h
  unfold vAppendA at h
  split at h
  · rename_i l2 n2 hx
    exact vAppendO_ok ho hx ⟨h1, h⟩
  · exact vAppend_ok ho ⟨h1, h⟩

/-! ### A slice held against nil -/
def nilD : D → Option Bool
  | .v (.slice a _ _) => some a.isNone
  | .sl (_ :: _) _ => some false
  | .own _ (_ + 1) => some false
  | _ => none
theorem rep_nilD {w : World} {g : G} {v : Value} {x : D} {b : Bool} (h : Rep w g v x) (hb : nilD x = some b) : ∃ a n c, v = .slice a n c ∧ a.isNone = b := by
  unfold nilD at hb
  split at hb <;> cases hb
  · simp only [Rep] at h
    exact ⟨_, _, _, h, rfl⟩
  · simp only [Rep] at h
    obtain ⟨a, c, rfl, _, _, _, h4⟩ := h
    obtain ⟨ad, rfl, _⟩ := h4 (by simp)
    exact ⟨_, _, _, rfl, rfl⟩
  · simp only [Rep] at h
    rcases h with ⟨b, c, _, _, rfl⟩ | ⟨_, h, _⟩
    · exact ⟨_, _, _, rfl, rfl⟩
    · cases h
def vBinA {Y : Sy} (E : Env Y) (op : BinOp) (t : Nat) (x y : D) (S : Store) (nx : Nat) (K : KT) : Prop := match y with
  | .v (.slice none 0 0) => onSome (E.T t) fun ti => match ti.k, op with
    | .slice _, .eql => onSome (nilD x) fun b => K (.v (.bool b)) S nx [] []
    | .slice _, .neq => onSome (nilD x) fun b => K (.v (.bool (!b))) S nx [] []
    | _, _ => False
  | y => vBin E op t x y S nx K
theorem vBinA_ok {op : BinOp} {t yt : Nat} {x y : Operand} (ho : o.op = .binOp op t x y yt) (h : vBinA E op t (evD E.gl σ x) (evD E.gl σ y) S nx K) : VopRes E o σ S nx K := by
  have hx : x ∈ o.op.operands := by rw [ho]; simp [Op.operands]
  have hy : y ∈ o.op.operands := by rw [ho]; simp [Op.operands]
  have hdef : ∀ c, o.op ≠ .defer c := by rw [ho]; simp
  unfold vBinA at h
  split at h
  · rename_i hey
    obtain ⟨ti, hti, h⟩ := h
    obtain ⟨i, desc, z, h1, h2, h3, h4, h5, h6, h7, h8, h9⟩ := ti_spec hti
    have key : ∀ {e : Nat} {v : Bool → Value} {b : Bool}, desc = .slice e → nilD (evD E.gl σ x) = some b → (∀ w a n c, (binOp op t (.slice a n c) (.slice none 0 0)).run E.P w = .ok (v a.isNone) w) → K (.v (v b)) S nx [] [] → VopRes E o σ S nx K := by
      intro e v b _ hb hrun hK
      refine VopRes.pure (acts_read hdef fun a w g hr hu _ => ⟨v b, ?_, by simp [Rep]⟩) hK
      obtain ⟨ad, n, c, e1, e2⟩ := rep_nilD (rep_eval hr hu hx) hb
      have e3 := rep_eval hr hu hy
      rw [hey] at e3
      simp only [Rep] at e3
      have hr2 := hrun w ad n c
      rw [e2] at hr2
      have hg : (a.eval x).oneCell' = true := by rw [e1]; rfl
      have hni : a.eval x ≠ .nilIface := by rw [e1]; simp
      rw [← e1, ← e3] at hr2
      simp [execOp, ho, eqGuard_plain hg hni, hr2]
    split at h
    · rename_i e hk
      obtain ⟨b, hb, hK⟩ := h
      rw [hk] at h8
      have := toTK_slice h8.symm
      subst this
      exact key (v := .bool) rfl hb (fun w a n c => Lib.run_eql_slice_nil w t e a n c 0 0 h2) hK
    · rename_i e hk
      obtain ⟨b, hb, hK⟩ := h
      rw [hk] at h8
      have := toTK_slice h8.symm
      subst this
      exact key (v := fun b => .bool (!b)) rfl hb (fun w a n c => run_neq_slice_nil_any w t e a n c 0 0 h2) hK
    · exact h.elim
  · exact vBin_ok ho h
/-! ### A text of bytes -/
theorem bytesD_ints : ∀ {es : List (List D)} {l : List UInt8}, bytesD es = some l → ∃ ns : List Int, es = ns.map (fun n => [.v (.int .u8 n)]) ∧ l = ns.map fun n => UInt8.ofNat n.toNat
  | [], l, h => by simp only [bytesD, Option.some.injEq] at h; subst h; exact ⟨[], rfl, rfl⟩
  | e :: r, l, h => by
    unfold bytesD at h
    split at h
    · rename_i heq; cases heq
    · rename_i n r' heq
      cases heq
      simp only [Option.map_eq_some_iff] at h
      obtain ⟨l', hl', rfl⟩ := h
      obtain ⟨ns, h1, h2⟩ := bytesD_ints hl'
      exact ⟨n :: ns, by rw [h1]; rfl, by rw [h2]; rfl⟩
    · cases h
theorem push_bytes : ∀ (ns : List Int) (s : List UInt8), ns.foldl (fun (r : ByteArray) n => r.push (UInt8.ofNat n.toNat)) ⟨⟨s⟩⟩ = ⟨⟨s ++ ns.map fun n => UInt8.ofNat n.toNat⟩⟩
  | [], s => by simp
  | n :: r, s => by
    have e : (⟨⟨s⟩⟩ : ByteArray).push (UInt8.ofNat n.toNat) = ⟨⟨s ++ [UInt8.ofNat n.toNat]⟩⟩ := by simp [ByteArray.push]
    rw [List.foldl_cons, e, push_bytes r]
    simp
theorem bytesD_map : ∀ (l : List UInt8), bytesD (l.map byteD) = some l
  | [] => rfl
  | c :: r => by simp [bytesD, byteD, bytesD_map r]
def vConvA {Y : Sy} (E : Env Y) (src dst : Nat) (x : D) (S : Store) (nx : Nat) (K : KT) : Prop := match x with
  | .sl es sz => onSome (E.T src) fun ts => onSome (E.T dst) fun td => match ts.k, td.k with
    | .slice e, .str => onSome (E.T e) fun te => match te.k with
      | .int .u8 => sz = 1 ∧ onSome (bytesD es) fun l => K (.s l) S nx [] []
      | _ => False
    | _, _ => False
  | x => vConv E src dst x S nx K
theorem vConvA_ok {src dst : Nat} {x : Operand} (ho : o.op = .convert src dst x) (h : vConvA E src dst (evD E.gl σ x) S nx K) : VopRes E o σ S nx K := by
  have hx : x ∈ o.op.operands := by rw [ho]; simp [Op.operands]
  have hdef : ∀ c, o.op ≠ .defer c := by rw [ho]; simp
  unfold vConvA at h
  split at h
  · rename_i es sz hev
    obtain ⟨ts, hts, td, htd, h⟩ := h
    obtain ⟨i, desc, z, h1, h2, h3, h4, h5, h6, h7, h8, h9⟩ := ti_spec htd
    obtain ⟨is, descs, zs, g1, g2, g3, g4, g5, g6, g7, g8, g9⟩ := ti_spec hts
    split at h
    · rename_i e hks hkd
      obtain ⟨te, hte, h⟩ := h
      obtain ⟨ie, de, ze, e1, e2, e3, e4, e5, e6, e7, e8, e9⟩ := ti_spec hte
      split at h
      · rename_i hke
        obtain ⟨rfl, l, hl, hK⟩ := h
        rw [hks] at g8
        have := toTK_slice g8.symm
        subst this
        rw [hkd] at h8
        have := toTK_str h8.symm
        subst this
        rw [hke] at e8
        have := toTK_int e8.symm
        subst this
        refine VopRes.pure (acts_read hdef fun a w g hr hu _ => ⟨.string ⟨⟨l⟩⟩, ?_, by simp [Rep]⟩) hK
        have hrep := rep_eval hr hu hx
        rw [hev] at hrep
        simp only [Rep] at hrep
        obtain ⟨ad, c, hax, hle, hmx, hsz, hne⟩ := hrep
        obtain ⟨ns, rfl, rfl⟩ := bytesD_ints hl
        have hpush := push_bytes ns []
        have hrun : (Conv.bytesToString (.slice ad ns.length c)).run E.P w = .ok (.string ⟨⟨ns.map fun n => UInt8.ofNat n.toNat⟩⟩) w := by
          cases ad with
          | none =>
            have : ns = [] := by
              cases ns with
              | nil => rfl
              | cons n r => obtain ⟨ad', h', _⟩ := hne (by simp); cases h'
            subst this
            simp only [Conv.bytesToString, List.map_nil, Sem.run_pure]
            rfl
          | some ad =>
            have hload : (loadCells ad ns.length).run E.P w = .ok (ns.map (Value.int .u8)).toArray w := by
              have := run_loadCells_list (P := E.P) w ad (ns.map (Value.int .u8)) (fun j v hj => by
                rw [List.getElem?_map] at hj
                simp only [Option.map_eq_some_iff] at hj
                obtain ⟨n, hn, rfl⟩ := hj
                obtain ⟨ad', h', _, hE⟩ := hne (by intro e; simp only [List.map_eq_nil_iff] at e; rw [e] at hn; simp at hn)
                cases h'
                obtain ⟨vs, hc, hv⟩ := hE.get (i := j) (e := [.v (.int .u8 n)]) (by rw [List.getElem?_map, hn]; rfl)
                obtain ⟨x1, r1, rfl, q1, _⟩ := RepL.cons_iff.1 hv
                simp only [Rep] at q1
                subst q1
                have := hc 0 _ rfl
                simpa [add_zero] using this)
              simpa using this
            rw [run_bytesToString w ad ns.length c ns hload]
            have e0 : (ByteArray.empty : ByteArray) = ⟨⟨[]⟩⟩ := rfl
            rw [e0, hpush]
            simp
        simp only [execOp, ho, hax, List.length_map]
        simp [run_convert_bytes_string w src dst e ad ns.length c g2 e2 h2, hrun]
      · exact h.elim
    · exact h.elim
  · exact vConv_ok ho h
end ops
/-! ### delete of a map's key -/
def delM : List (Value × D) → Value → List (Value × D)
  | [], _ => []
  | (k', e) :: r, k => if keyEq k k' then r else (k', e) :: delM r k
theorem delM_none {k : Value} : ∀ {es : List (Value × D)}, findM es k = none → delM es k = es
  | [], _ => rfl
  | (k', e) :: r, h => by
    cases hq : keyEq k k' with
    | true => simp [findM, hq] at h
    | false =>
      simp only [delM, hq]
      rw [delM_none (es := r) (by simpa [findM, hq] using h)]
      rfl
theorem delM_at {k : Value} : ∀ {es : List (Value × D)} {j : Nat} (e : Value × D), es[j]? = some e → keyEq k e.1 = true → (∀ q, q < j → ∀ e, es[q]? = some e → keyEq k e.1 = false) → delM es k = es.eraseIdx j
  | [], _, _, h, _, _ => by simp at h
  | (k', x) :: r, 0, e, h, hq, _ => by
    simp at h; subst h
    simp [delM, hq]
  | (k', x) :: r, j + 1, e, h, hq, hn => by
    have h0 := hn 0 (by omega) _ rfl
    simp only [delM, h0, List.eraseIdx_cons_succ]
    rw [delM_at (es := r) e (by simpa using h) hq fun q hq' e' he' => hn (q + 1) (by omega) e' (by simpa using he')]
    rfl
theorem RepL.erase {w : World} {g : G} : ∀ {vs : List Value} {ds : List D} (j : Nat), RepL w g vs ds → RepL w g (vs.eraseIdx j) (ds.eraseIdx j)
  | [], [], _, _ => by simp [RepL]
  | v :: vs, d :: ds, 0, h => by simp only [RepL] at h; simpa using h.2
  | v :: vs, d :: ds, j + 1, h => by
    simp only [RepL] at h
    simp only [List.eraseIdx_cons_succ, RepL]
    exact ⟨h.1, RepL.erase j h.2⟩
  | [], d :: ds, _, h => by simp [RepL] at h
  | v :: vs, [], _, h => by simp [RepL] at h
theorem map_eraseIdx' {α β : Type} (f : α → β) : ∀ (l : List α) (j : Nat), (l.eraseIdx j).map f = (l.map f).eraseIdx j
  | [], _ => by simp
  | _ :: _, 0 => by simp
  | _ :: r, j + 1 => by simp [map_eraseIdx' f r j]
section ops
variable {Y : Sy} {E : Env Y} {o : Oper} {σ : List (Nat × D)} {S : Store} {nx : Nat} {K : KT}
def vDelete {Y : Sy} (E : Env Y) (t : Nat) (x key : D) (S : Store) (nx : Nat) (K : KT) : Prop :=
  onSome (E.T t) fun ti => match ti.k with
  | .map kt _ => onSome (E.T kt) fun tk => onSome (keyV key) fun kv => match x with
    | .mp l => onSome (look S l) fun
      | .mp es => (keyKind tk.k kv = true ∧ (∀ e ∈ es, keyKind tk.k e.1 = true)) ∧ K .any (putS S l (.mp (delM es kv))) nx [l] [l]
      | _ => False
    | _ => False
  | _ => False
theorem vDelete_ok {t t2 : Nat} {x key : Operand} (ho : o.op = .call { callee := .builtin .delete, args := #[x, key], argTypes := #[t, t2] }) (h : vDelete E t (evD E.gl σ x) (evD E.gl σ key) S nx K) : VopRes E o σ S nx K := by
  obtain ⟨ti, hti, h⟩ := h
  obtain ⟨i, desc, z, h1, h2, h3, h4, h5, h6, h7, h8, h9⟩ := ti_spec hti
  have hx : x ∈ o.op.operands := by rw [ho]; simp [Op.operands, Call.operands]
  have hkk : key ∈ o.op.operands := by rw [ho]; simp [Op.operands, Call.operands]
  have hdef : ∀ c, o.op ≠ .defer c := by rw [ho]; simp
  have hex : ∀ (a : Act) (w w' : World) (v' : Value), (Builtin.delete_ #[t, t2] o.type #[a.eval x, a.eval key]).run E.P w = .ok v' w' → (execOp a.eval o).run E.P w = .ok (.value v') w' := by
    intro a w w' v' h
    simp [execOp, ho, resolve, invoke, builtin, h]
  split at h
  · rename_i kt et hk
    rw [hk] at h8
    have := toTK_map h8.symm
    subst this
    obtain ⟨tk, htk, kv, hkv, h⟩ := h
    obtain ⟨ik, dk, zk, k1, k2, k3, k4, k5, k6, k7, k8, k9⟩ := ti_spec htk
    split at h
    · rename_i l hev
      obtain ⟨ob, hl, h⟩ := h
      split at h
      · rename_i es
        obtain ⟨⟨hkind, hall⟩, hK⟩ := h
        refine VopRes.write hl (acts_of hdef fun a w g hr hu hs _ => ?_) hK
        obtain ⟨b, c, arr, clock, hφ, hh, m1, m2, m3, m4⟩ := mp_of hs
        have e1 := rep_eval hr hu hx
        have e2 := rep_key (rep_eval hr hu hkk) hkv
        rw [hev] at e1
        simp only [Rep] at e1
        obtain ⟨b', c', hφ', e1⟩ := e1
        rw [hφ] at hφ'
        cases hφ'
        have hb : b < w.heap.size := hr.wf.flt _ _ _ hφ
        have hck := fun q => run_checkKey (w := w) k2 k8 hkind q 9999
        have hmove : ∀ (arr' : Array MapEntry) (es' : List (Value × D)), arr'.toList.map (·.key) = es'.map (·.1) → RepL w g (arr'.toList.map (·.val)) (es'.map (·.2)) → (∀ e ∈ arr'.toList, e.born < clock) → (arr'.toList.map (·.born)).Nodup →
            (Builtin.delete_ #[t, t2] o.type #[.map (some b), kv]).run E.P w = .ok (.tuple #[]) { w with heap := w.heap.setIfInBounds b (.map arr' clock) } →
            ∃ v w' g', ((execOp a.eval o).run E.P w = .ok (.value v) w' ∨ (execOp a.eval o).run E.P w = .ok .skip w' ∧ v = undef) ∧ Move E (look [(l, .mp es)]) (look [(l, .mp es')]) w g w' g' ∧ Rep w' g' v .any := by
          intro arr' es' q1 q2 q3 q4 hrun
          have hsz : ({ w with heap := w.heap.setIfInBounds b (.map arr' clock) } : World).heap.size = w.heap.size := by simp
          have hm := move_write (w' := { w with heap := w.heap.setIfInBounds b (.map arr' clock) }) (ob' := .mp es') hr hs hφ rfl rfl rfl hsz (fun k hne => by simp [Ne.symm hne]) ?_
          · exact ⟨.tuple #[], _, g, .inl (hex a w _ _ (by rw [e1, e2]; exact hrun)), hm, by simp [Rep]⟩
          · refine ⟨b, arr', clock, rfl, by simp [hb], q1, ?_, q3, q4⟩
            have hown : ∀ z, g.Z z → ¬ (fun k => k = b) z := fun z hz he => by
              subst he
              exact hs.own_z _ hz ⟨l, c, by simp [look], hφ⟩
            refine RepL.tr (own := fun k => k = b) (w := w) (g := g) (w' := { w with heap := w.heap.setIfInBounds b (.map arr' clock) }) ⟨rfl, rfl, rfl, by simp, fun k _ hne => by simp [Ne.symm hne], fun _ h => h, fun _ h _ _ => h, fun _ _ h => h, fun l b c h1 h2 => by rw [h1] at h2; cases h2⟩ hr.wf hown q2
        rcases findNow_ok k8 hkind 0 m1 hall m2 with ⟨f1, f2⟩ | ⟨dd, v, j, f1, f2, f3, f4, ⟨e0, f5, f6⟩, f7⟩
        · rw [delM_none f1]
          refine hmove arr _ m1 m2 m3 m4 ?_
          simp [Builtin.delete_, run_underlying h2, getObj_map' hh, setObj_map' _ hh, hck, Instr.findKey, run_underlying k2, f2]
        · have hj : arr[j]? = some e0 := by simpa using f5
          have hjl : j < arr.size := (Array.getElem?_eq_some_iff.1 hj).1
          have he0 : e0.key = kv := (keyEq_eq f6).symm
          have hes : ∃ e, es[j]? = some e ∧ e.1 = e0.key := by
            have := congrArg (·[j]?) m1
            simp only [List.getElem?_map, f5, Option.map_some] at this
            cases hq : es[j]? with
            | none => rw [hq] at this; simp at this
            | some e => rw [hq] at this; simp at this; exact ⟨e, rfl, this.symm⟩
          obtain ⟨ej, hej, hej1⟩ := hes
          have hp : delM es kv = es.eraseIdx j := by
            refine delM_at ej hej (by rw [hej1]; exact f6) fun q hq e he => ?_
            have := congrArg (·[q]?) m1
            simp only [List.getElem?_map, he, Option.map_some] at this
            cases hq' : arr.toList[q]? with
            | none => rw [hq'] at this; simp at this
            | some e' => rw [hq'] at this; simp at this; rw [← this]; exact f7 q hq e' hq'
          rw [hp]
          have ha : (arr.eraseIdxIfInBounds j).toList = arr.toList.eraseIdx j := by
            unfold Array.eraseIdxIfInBounds
            rw [dif_pos hjl]
            exact Array.toList_eraseIdx
          refine hmove (arr.eraseIdxIfInBounds j) _ ?_ ?_ ?_ ?_ ?_
          · rw [ha, map_eraseIdx', map_eraseIdx', m1]
          · rw [ha, map_eraseIdx', map_eraseIdx']
            exact m2.erase j
          · rw [ha]
            exact fun e he => m3 e (List.mem_of_mem_eraseIdx he)
          · rw [ha, map_eraseIdx']
            exact m4.sublist (List.eraseIdx_sublist _ _)
          · simp [Builtin.delete_, run_underlying h2, getObj_map' hh, setObj_map' _ hh, hck, Instr.findKey, run_underlying k2, f2]
      · exact h.elim
    · exact h.elim
  · exact h.elim
end ops
attribute [go_sem] vConvA bytesD_map vBinA nilD Option.isNone_none Option.isNone_some
attribute [go_sem] vRange vNext vAppendA vDelete
end Go.Abs
namespace Go.Abs
open Go
/-- A contract under the fence that asks nothing is one under any fence of ours. -/
theorem fenced_env {Y : Sy} (E : Env Y) (P : Program) (m : Machine) : m.fenced P E.F := by
  intro g _
  refine ⟨fun h => ?_, .inl (E.hF _), fun _ _ => E.hF _, fun d h => ?_⟩
  · rw [E.hal] at h; cases h
  · rw [E.hd] at h; cases h
theorem callsIn_env {Y : Sy} (E : Env Y) {n m : Nat} {P : Program} {f : FuncId} {args : Array Value} {w : World} {R : Ending → World → Prop} (h : CallsIn Fence.wide n P f args w R) : CallsIn E.F m P f args w R := by
  refine ⟨E.hF f, fun cs _ => ?_⟩
  obtain ⟨e, w', fr, r, s, x⟩ := h.2 cs (room_wide _)
  refine ⟨e, w', fr, r, ?_, x⟩
  have hs : ∀ {m m' : Machine}, StepsIn (Machine.fenced P Fence.wide) P m m' → StepsIn (Machine.fenced P E.F) P m m' := fun hs => hs.mono fun m _ => fenced_env E P m
  cases e with
  | outgrown => exact s
  | returned v => exact hs s
  | panicked c => exact hs s
end Go.Abs
namespace Go.Abs
open Go

/-! ### One operation -/
def vBuiltin {Y : Sy} (E : Env Y) (b : Builtin) (args : List D) (ts : List Nat) (S : Store) (nx : Nat) (K : KT) : Prop := match b, args, ts with
  | .len, [x], [t] => vLen E t x S nx K
  | .append, [s, x], [t, t2] => t2 = t ∧ vAppendA E t s x S nx K
  | .max, [x, y], _ => vMinMax true x y S nx K
  | .delete, [m, key], [t, _] => vDelete E t m key S nx K
  | _, _, _ => False
def vop {Y : Sy} (E : Env Y) (fz : Bool) (σ : List (Nat × D)) (op : Op) (S : Store) (nx : Nat) (K : KT) : Prop := match op with
  | .move x => vMove (evD E.gl σ x) S nx K
  | .assign x => vMove (evD E.gl σ x) S nx K
  | .pick c x y => vPick (evD E.gl σ c) (evD E.gl σ x) (evD E.gl σ y) S nx K
  | .nilCheck x => vNil (evD E.gl σ x) S nx K
  | .extract x i => vExtract (evD E.gl σ x) i S nx K
  | .makeFunc f fi ca => vFunc f (fi.toList.map (evD E.gl σ)) (ca.toList.map (evD E.gl σ)) S nx K
  | .box _ x => vBox fz (evD E.gl σ x) S nx K
  | .alloc t => vAlloc E fz t S nx K
  | .fieldAddr t x f => vFieldAddr E t (evD E.gl σ x) f S nx K
  | .field t x f => vField E t (evD E.gl σ x) f S nx K
  | .indexAddr t x i => vIndexAddr E t (evD E.gl σ x) (evD E.gl σ i) S nx K
  | .index t x i => vIndex E t (evD E.gl σ x) (evD E.gl σ i) S nx K
  | .load t x => vLoad E t (evD E.gl σ x) S nx K
  | .store t x v => vStore E t (evD E.gl σ x) (evD E.gl σ v) S nx K
  | .build t parts => vBuild E t (partsD parts.toList (evD E.gl σ)) S nx K
  | .buildSlice t len parts => vBuildSlice E fz t len (partsD parts.toList (evD E.gl σ)) S nx K
  | .makeSlice t l c => vMakeSlice E fz t (evD E.gl σ l) (evD E.gl σ c) S nx K
  | .slice t x lo hi none => vSlice E t (evD E.gl σ x) (lo.map (evD E.gl σ)) (hi.map (evD E.gl σ)) S nx K
  | .unOp op _ x => vUn op (evD E.gl σ x) S nx K
  | .binOp op t x y _ => vBinA E op t (evD E.gl σ x) (evD E.gl σ y) S nx K
  | .convert src dst x => vConvA E src dst (evD E.gl σ x) S nx K
  | .makeMap _ none => vMakeMap S nx K
  | .lookup t x key ok => vLookup E t ok (evD E.gl σ x) (evD E.gl σ key) S nx K
  | .mapUpdate t x key y => vMapUpdate E t (evD E.gl σ x) (evD E.gl σ key) (evD E.gl σ y) S nx K
  | .insert t x key y => vMapUpdate E t (evD E.gl σ x) (evD E.gl σ key) (evD E.gl σ y) S nx K
  | .call c => match c.callee with
    | .value f => vCall Y (evD E.gl σ f) (c.args.toList.map (evD E.gl σ)) S nx K
    | .builtin b => vBuiltin E b (c.args.toList.map (evD E.gl σ)) c.argTypes.toList S nx K
    | _ => False
  | .range t x => vRange E t (evD E.gl σ x) S nx K
  | .next x true => vNext (evD E.gl σ x) S nx K
  | _ => False

theorem vop_ok {Y : Sy} {E : Env Y} {o : Oper} {fz : Bool} {σ : List (Nat × D)} {S : Store} {nx : Nat} {K : KT} (h : vop E fz σ o.op S nx K) : VopRes E o σ S nx K := by
  unfold vop at h
  split at h
  case h_1 ho => exact vMove_ok (.inl ho) h
  case h_2 ho => exact vMove_ok (.inr ho) h
  case h_3 ho => exact vPick_ok ho h
  case h_4 ho => exact vNil_ok ho h
  case h_5 ho => exact vExtract_ok ho h
  case h_6 ho => exact vFunc_ok ho h
  case h_7 ho => exact vBox_ok ho h
  case h_8 ho => exact vAlloc_ok ho h
  case h_9 ho => exact vFieldAddr_ok ho h
  case h_10 ho => exact vField_ok ho h
  case h_11 ho => exact vIndexAddr_ok ho h
  case h_12 ho => exact vIndex_ok ho h
  case h_13 ho => exact vLoad_ok ho h
  case h_14 ho => exact vStore_ok ho h
  case h_15 ho => exact vBuild_ok ho h
  case h_16 ho => exact vBuildSlice_ok ho h
  case h_17 ho => exact vMakeSlice_ok ho h
  case h_18 ho => exact vSlice_ok ho h
  case h_19 ho => exact vUn_ok ho h
  case h_20 ho => exact vBinA_ok ho h
  case h_21 ho => exact vConvA_ok ho h
  case h_22 ho => exact vMakeMap_ok ho h
  case h_23 ho => exact vLookup_ok ho h
  case h_24 ho => exact vMapUpdate_ok (.inl ho) h
  case h_25 ho => exact vMapUpdate_ok (.inr ho) h
  case h_26 c ho =>
    split at h
    · rename_i f hc
      exact vCall_ok ho hc h
    · rename_i b hc
      obtain ⟨cal, args, ts⟩ := c
      simp only at hc h
      subst hc
      have ea : args = args.toList.toArray := by simp
      have et : ts = ts.toList.toArray := by simp
      unfold vBuiltin at h
      split at h
      · rename_i x t h1 h2
        cases hl : args.toList with
        | nil => rw [hl] at h1; simp at h1
        | cons x' r =>
          rw [hl] at h1
          simp at h1
          obtain ⟨rfl, rfl⟩ := h1
          rw [hl] at ea
          rw [h2] at et
          subst ea
          subst et
          exact vLen_ok ho h
      · rename_i s x t t2 h1 h2
        cases hl : args.toList with
        | nil => rw [hl] at h1; simp at h1
        | cons x' r =>
          cases r with
          | nil => rw [hl] at h1; simp at h1
          | cons y' r =>
            rw [hl] at h1
            simp at h1
            obtain ⟨rfl, rfl, rfl⟩ := h1
            rw [hl] at ea
            rw [h2] at et
            subst ea
            subst et
            exact vAppendA_ok ho h
      · rename_i x y h1
        cases hl : args.toList with
        | nil => rw [hl] at h1; simp at h1
        | cons x' r =>
          cases r with
          | nil => rw [hl] at h1; simp at h1
          | cons y' r =>
            rw [hl] at h1
            simp at h1
            obtain ⟨rfl, rfl, rfl⟩ := h1
            rw [hl] at ea
            subst ea
            exact vMax_ok ho h
      · rename_i s x t t2 h1 h2
        cases hl : args.toList with
        | nil => rw [hl] at h1; simp at h1
        | cons x' r =>
          cases r with
          | nil => rw [hl] at h1; simp at h1
          | cons y' r =>
            rw [hl] at h1
            simp at h1
            obtain ⟨rfl, rfl, rfl⟩ := h1
            rw [hl] at ea
            rw [h2] at et
            subst ea
            subst et
            exact vDelete_ok ho h
      · exact h.elim
    · exact h.elim
  case h_27 ho => exact vRange_ok ho h
  case h_28 ho => exact vNext_ok ho h
  case h_29 => exact h.elim

/-! ### The operations of a region -/
def cov (a b : Sk) : Prop := (∀ x ∈ a.lt, x ∈ b.lt) ∧ (∀ x ∈ a.ls, x ∈ b.ls) ∧ (∀ x ∈ a.wt, x ∈ b.wt) ∧ (∀ x ∈ a.ws, x ∈ b.ws)
theorem meets_mono {a b c d : List Nat} (h1 : ∀ x ∈ a, x ∈ c) (h2 : ∀ x ∈ b, x ∈ d) (h : meets a b = true) : meets c d = true := by
  simp only [meets, List.any_eq_true] at h ⊢
  obtain ⟨x, hx, y, hy, e⟩ := h
  exact ⟨x, h1 x hx, y, h2 y hy, e⟩
theorem confl_mono {a b c d : Sk} (h1 : cov a c) (h2 : cov b d) (h : a.confl b = true) : c.confl d = true := by
  obtain ⟨p1, p2, p3, p4⟩ := h1
  obtain ⟨q1, q2, q3, q4⟩ := h2
  simp only [Sk.confl, Bool.or_eq_true] at h ⊢
  rcases h with ((((h | h) | h) | h) | h) | h
  · exact .inl (.inl (.inl (.inl (.inl (meets_mono p3 q1 h)))))
  · exact .inl (.inl (.inl (.inl (.inr (meets_mono p3 q3 h)))))
  · exact .inl (.inl (.inl (.inr (meets_mono p1 q3 h))))
  · exact .inl (.inl (.inr (meets_mono p4 q2 h)))
  · exact .inl (.inr (meets_mono p4 q4 h))
  · exact .inr (meets_mono p2 q4 h)
theorem ordB_mono {bits : List Nat} {a b : List Sk} (hl : a.length = b.length) (h : ∀ (i : Nat) x y, a[i]? = some x → b[i]? = some y → cov x y) (hb : ordB bits b = true) : ordB bits a = true := by
  simp only [ordB, List.all_eq_true, List.mem_range] at hb ⊢
  intro j hj i hi
  have := hb j (by omega) i hi
  have g1 : ∀ k, k < a.length → ∃ x y, a[k]? = some x ∧ b[k]? = some y ∧ cov x y := by
    intro k hk
    refine ⟨a[k], b[k]'(by omega), by simp, by simp, ?_⟩
    exact h k _ _ (by simp) (by simp)
  obtain ⟨x, y, e1, e2, c1⟩ := g1 i (by omega)
  obtain ⟨x', y', e1', e2', c1'⟩ := g1 j hj
  rw [e2, e2'] at this
  rw [e1, e1']
  simp only [Bool.or_eq_true, Bool.not_eq_true'] at this ⊢
  rcases this with h1 | h1
  · refine .inl ?_
    cases hc : x.confl x' with
    | false => rfl
    | true => rw [confl_mono c1 c1' hc] at h1; cases h1
  · exact .inr h1

abbrev RT := List (Nat × D) → Store → Nat → Prop

def memN : List Nat → Nat → Bool
  | [], _ => false
  | x :: r, t => if x = t then true else memN r t
def fzOf (fz : List Nat) (o : Oper) : Bool := match o.dst with | some t => memN fz t | none => false
def chk (N : Nat) (ops : Array Oper) (draw : Bool) (acc : List Sk) : Bool :=
  (ops.toList.all fun o => match o.dst with | some t => Nat.blt t N | none => true) && (bif draw then backB ops.toList && ordB (bef ops.toList []) acc.reverse else true)
def gDst (ops : Array Oper) (j : Nat) : Option Nat := (ops[j]?).bind (·.dst)

/-- The operations, one behind the other. 'acc': what each looks at and writes, the last one first. -/
def vops {Y : Sy} (E : Env Y) (N : Nat) (fz : List Nat) (ops : Array Oper) (draw : Bool) (K : RT) : List Oper → List (Nat × D) → Store → Nat → List Sk → Prop
  | [], σ, S, nx, acc => chk N ops draw acc = true ∧ K σ S nx
  | o :: r, σ, S, nx, acc => match o.guard with
    | none => vop E (fzOf fz o) σ o.op S nx fun d S' nx' ls ws => vops E N fz ops draw K r (setO σ o.dst d) S' nx' (⟨gTmp ops o ++ opTmps o, ls, o.dst.toList, ws⟩ :: acc)
    | some (j, b) => onSome (gDst ops j) fun t => (getT σ t = .v (.tuple #[]) ∧ vops E N fz ops draw K r (setO σ o.dst (.v (.tuple #[]))) S nx (⟨gTmp ops o, [], o.dst.toList, []⟩ :: acc)) ∨ ∃ q, getT σ t = .v (.bool q) ∧
        (q = b → vop E (fzOf fz o) (setT σ t (.v (.bool b))) o.op S nx fun d S' nx' ls ws => vops E N fz ops draw K r (setO (setT σ t (.v (.bool b))) o.dst d) S' nx' (⟨gTmp ops o ++ opTmps o, ls, o.dst.toList, ws⟩ :: acc)) ∧
        (q = !b → vops E N fz ops draw K r (setO (setT σ t (.v (.bool (!b)))) o.dst (.v (.tuple #[]))) S nx (⟨gTmp ops o, [], o.dst.toList, []⟩ :: acc))

structure Mt (f : Loc → Option Cn) (σ : List (Nat × D)) (S : Store) : Prop where
  t : ∀ t, fT f t = getT σ t
  s : ∀ l, fS f l = look S l

theorem fT_wr2 {f : Loc → Option Cn} {ops : Array Oper} {o : Oper} {sd : SD} {d : D} (h : sd = .skip ∧ d = .v (.tuple #[]) ∨ ∃ use pre post chg, sd = .act use pre d post chg) (t : Nat) :
    fT (app f (acOf ops o sd).wr) t = if o.dst = some t then d else fT f t := by
  have key : ∀ (r : List (Loc × Option Cn)), (∀ x ∈ r, ∃ l, x.1 = .inr l) → fT (app f (wrT o.dst d ++ r)) t = if o.dst = some t then d else fT f t := by
    intro r hr
    cases hd : o.dst with
    | none =>
      simp only [wrT, List.nil_append, fT, app_inl_skip hr]
      simp
    | some u =>
      by_cases hu : u = t
      · subst hu; simp [wrT, app, fT]
      · have hne : (Sum.inl u : Loc) ≠ .inl t := by simpa using hu
        simp only [wrT, List.cons_append, List.nil_append, fT, app]
        rw [if_neg hne, app_inl_skip hr]
        simp [hu]
  rcases h with ⟨rfl, rfl⟩ | ⟨use, pre, post, chg, rfl⟩
  · have := key [] (by simp)
    simpa [acOf] using this
  · refine key _ ?_
    intro x hx
    cases chg with
    | false => simp at hx
    | true =>
      simp only [if_true, List.mem_append, List.mem_map] at hx
      rcases hx with ⟨y, _, rfl⟩ | ⟨y, _, rfl⟩ <;> exact ⟨_, rfl⟩

theorem getT_setO (σ : List (Nat × D)) (dst : Option Nat) (d : D) (t : Nat) : getT (setO σ dst d) t = if dst = some t then d else getT σ t := by
  cases dst with
  | none => simp [setO]
  | some u => simp only [setO, getT_setT, Option.some.injEq]

theorem fS_skip {f : Loc → Option Cn} {ops : Array Oper} {o : Oper} (l : Nat) : fS (app f (acOf ops o .skip).wr) l = fS f l := by
  have := app_inr_skip (f := f) (ws := wrT o.dst (.v (.tuple #[]))) (r := []) (l := l) (wrT_inl _ _)
  simp only [List.append_nil, app] at this
  simp only [acOf, fS, this]

theorem dst_ok {Y : Sy} {E : Env Y} {N : Nat} {fz : List Nat} {ops : Array Oper} {draw : Bool} {K : RT} : ∀ {r : List Oper} {σ : List (Nat × D)} {S : Store} {nx : Nat} {acc : List Sk},
    vops E N fz ops draw K r σ S nx acc → ∃ acc', chk N ops draw acc' = true
  | [], _, _, _, acc, h => ⟨acc, h.1⟩
  | o :: r, σ, S, nx, acc, h => by
    unfold vops at h
    split at h
    · obtain ⟨d, S', nx', ls, ws, pre, post, chg, _, hK⟩ := vop_ok h
      exact dst_ok hK
    · rename_i j b hg
      obtain ⟨t, ht, ⟨_, h0⟩ | ⟨q, hq, h1, h2⟩⟩ := h
      · exact dst_ok h0
      by_cases hqb : q = b
      · obtain ⟨d, S', nx', ls, ws, pre, post, chg, _, hK⟩ := vop_ok (h1 hqb)
        exact dst_ok hK
      · exact dst_ok (h2 (by cases q <;> cases b <;> simp_all))

def rn (ops : Array Oper) (f0 : Loc → Option Cn) (sds : List SD) : Loc → Option Cn := run (acs ops sds) (fun _ => true) 0 f0
theorem acs_snoc {ops : Array Oper} {pre : List SD} {dn r : List Oper} {o : Oper} {sd : SD} (h : ops.toList = dn ++ o :: r) (hl : dn.length = pre.length) : acs ops (pre ++ [sd]) = acs ops pre ++ [acOf ops o sd] := by
  unfold acs
  rw [h, List.zipWith_append hl]
  have : List.zipWith (acOf ops) (dn ++ o :: r) pre = List.zipWith (acOf ops) dn pre := by
    have := List.zipWith_append (f := acOf ops) (l₁ := dn) (l₁' := o :: r) (l₂ := pre) (l₂' := []) hl
    simpa using this
  rw [this]
  simp
theorem sks_snoc {ops : Array Oper} {pre : List SD} {dn r : List Oper} {o : Oper} {sd : SD} (h : ops.toList = dn ++ o :: r) (hl : dn.length = pre.length) : sks ops (pre ++ [sd]) = sks ops pre ++ [skOf ops o sd] := by
  unfold sks
  rw [h, List.zipWith_append hl]
  have : List.zipWith (skOf ops) (dn ++ o :: r) pre = List.zipWith (skOf ops) dn pre := by
    have := List.zipWith_append (f := skOf ops) (l₁ := dn) (l₁' := o :: r) (l₂ := pre) (l₂' := []) hl
    simpa using this
  rw [this]
  simp
theorem rn_snoc {ops : Array Oper} {f0 : Loc → Option Cn} {pre : List SD} {dn r : List Oper} {o : Oper} {sd : SD} (h : ops.toList = dn ++ o :: r) (hl : dn.length = pre.length) :
    rn ops f0 (pre ++ [sd]) = app (rn ops f0 pre) (acOf ops o sd).wr := by
  unfold rn
  rw [acs_snoc h hl, run_append]
  simp [run]

def VRes {Y : Sy} (E : Env Y) (ops : Array Oper) (draw : Bool) (K : RT) (f0 : Loc → Option Cn) (pre : List SD) (nx : Nat) : Prop :=
  ∃ (sds : List SD) (nw : Nat → Nat) (σ' : List (Nat × D)) (S' : Store), pre <+: sds ∧ sds.length = ops.size ∧ nw pre.length = nx ∧ (∀ i, pre.length ≤ i → nw i ≤ nw (i + 1)) ∧
        (∀ i o sd, pre.length ≤ i → ops[i]? = some o → sds[i]? = some sd → fits E ops o (rn ops f0 (sds.take i)) sd) ∧
        (∀ i use p d q chg, pre.length ≤ i → sds[i]? = some (.act use p d q chg) → ∀ l, look p l = none → look q l ≠ none → nw i ≤ l ∧ l < nw (i + 1)) ∧
        Mt (rn ops f0 sds) σ' S' ∧ K σ' S' (nw ops.size) ∧ (draw = true → backB ops.toList = true ∧ ordB (bef ops.toList []) (sks ops sds) = true)

theorem vops_ok {Y : Sy} {E : Env Y} {N : Nat} (hN : E.N = N) {fz : List Nat} {ops : Array Oper} {draw : Bool} {K : RT} {f0 : Loc → Option Cn} (hdst : ∀ o ∈ ops.toList, ∀ t, o.dst = some t → t < N) :
    ∀ (r dn : List Oper) (pre : List SD) (σ : List (Nat × D)) (S : Store) (nx : Nat) (acc : List Sk), ops.toList = dn ++ r → dn.length = pre.length → acc.length = pre.length →
      (∀ (i : Nat) x y, (sks ops pre)[i]? = some x → acc.reverse[i]? = some y → cov x y) → Mt (rn ops f0 pre) σ S → vops E N fz ops draw K r σ S nx acc →
      VRes E ops draw K f0 pre nx
  | [], dn, pre, σ, S, nx, acc, hops, hl, hal, hcov, hmt, h => by
    have hsz : pre.length = ops.size := by rw [← hl, ← Array.length_toList, hops]; simp
    refine ⟨pre, fun _ => nx, σ, S, List.prefix_refl _, hsz, rfl, fun _ _ => Nat.le_refl _, fun i o sd hi ho _ => ?_, fun i use p d q chg hi ho => ?_, hmt, h.2, fun hd => ?_⟩
    · have := (Array.getElem?_eq_some_iff.1 ho).1; omega
    · have := (List.getElem?_eq_some_iff.1 ho).1; omega
    · have := h.1
      simp only [chk, hd, cond_true, Bool.and_eq_true] at this
      refine ⟨this.2.1, ordB_mono ?_ hcov this.2.2⟩
      have e : (sks ops pre).length = ops.size := by simp [sks, hsz]
      rw [e, List.length_reverse, hal, hsz]
  | o :: r, dn, pre, σ, S, nx, acc, hops, hl, hal, hcov, hmt, h => by
    have ho : ops[pre.length]? = some o := by
      have : ops.toList[pre.length]? = some o := by rw [hops, ← hl]; simp
      simpa using this
    have hoN : ∀ t, o.dst = some t → t < E.N := by rw [hN]; exact hdst o (by rw [hops]; simp)
    -- one step on
    have next : ∀ (sd : SD) (σ1 : List (Nat × D)) (S1 : Store) (nx1 : Nat) (sk : Sk), cov (skOf ops o sd) sk → fits E ops o (rn ops f0 pre) sd → nx ≤ nx1 →
        (∀ use p d q chg, sd = .act use p d q chg → ∀ l, look p l = none → look q l ≠ none → nx ≤ l ∧ l < nx1) → Mt (rn ops f0 (pre ++ [sd])) σ1 S1 → vops E N fz ops draw K r σ1 S1 nx1 (sk :: acc) →
        VRes E ops draw K f0 pre nx := by
      intro sd σ1 S1 nx1 sk hc hfit hnx hnew hmt1 hv
      have hcov1 : ∀ (i : Nat) x y, (sks ops (pre ++ [sd]))[i]? = some x → (sk :: acc).reverse[i]? = some y → cov x y := by
        intro i x y hx hy
        rw [sks_snoc hops hl] at hx
        rw [List.reverse_cons] at hy
        have e1 : (sks ops pre).length = pre.length := by
          have : pre.length ≤ ops.size := by have := (Array.getElem?_eq_some_iff.1 ho).1; omega
          simp [sks]; omega
        have e2 : acc.reverse.length = pre.length := by simp [hal]
        by_cases hi : i < pre.length
        · rw [List.getElem?_append_left (by omega)] at hx
          rw [List.getElem?_append_left (by omega)] at hy
          exact hcov i x y hx hy
        · rw [List.getElem?_append_right (by omega), e1] at hx
          rw [List.getElem?_append_right (by omega), e2] at hy
          have : i - pre.length = 0 := by
            rcases Nat.eq_zero_or_pos (i - pre.length) with h0 | h0
            · exact h0
            · rw [List.getElem?_eq_none (by simp; omega)] at hx; cases hx
          rw [this] at hx hy
          simp at hx hy
          subst hx
          subst hy
          exact hc
      obtain ⟨sds, nw, σ', S', p1, p2, p3, p4, p5, p6, p7, p8, p9⟩ := vops_ok hN hdst r (dn ++ [o]) (pre ++ [sd]) σ1 S1 nx1 (sk :: acc) (by rw [hops]; simp) (by simp [hl]) (by simp [hal]) hcov1 hmt1 hv
      have hpl : (pre ++ [sd]).length = pre.length + 1 := by simp
      have hge : ops.size ≠ pre.length := by have := (Array.getElem?_eq_some_iff.1 ho).1; omega
      rw [hpl] at p3 p4 p5 p6
      have hsd : sds[pre.length]? = some sd := by
        obtain ⟨q, rfl⟩ := p1
        rw [List.getElem?_append_left (by simp)]
        simp
      refine ⟨sds, fun i => if i = pre.length then nx else nw i, σ', S', (List.prefix_append pre [sd]).trans p1, p2, by simp, fun i hi => ?_, fun i o' sd' hi ho' hsd' => ?_, fun i use p d q chg hi hsd' l h1 h2 => ?_, p7, ?_, p9⟩
      · by_cases he : i = pre.length
        · subst he; simp [p3, hnx]
        · have : i + 1 ≠ pre.length := by omega
          simp only [he, this, if_false]
          exact p4 i (by omega)
      · by_cases he : i = pre.length
        · subst he
          rw [ho] at ho'
          cases ho'
          rw [hsd] at hsd'
          cases hsd'
          have : sds.take pre.length = pre := by
            obtain ⟨q, rfl⟩ := p1
            simp
          rw [this]
          exact hfit
        · exact p5 i o' sd' (by omega) ho' hsd'
      · by_cases he : i = pre.length
        · subst he
          rw [hsd] at hsd'
          cases hsd'
          have := hnew use p d q chg rfl l h1 h2
          simp [p3, this]
        · have h3 : i + 1 ≠ pre.length := by omega
          simp only [he, h3, if_false]
          exact p6 i use p d q chg (by omega) hsd' l h1 h2
      · simp only [hge, if_false]; exact p8
    -- an operation that runs
    have act : ∀ (σ1 : List (Nat × D)), (∀ t, getT σ1 t = getT σ t) → (o.guard = none ∨ ∃ j b t oj, o.guard = some (j, b) ∧ ops[j]? = some oj ∧ oj.dst = some t ∧ fT (rn ops f0 pre) t = .v (.bool b)) →
        vop E (fzOf fz o) σ1 o.op S nx (fun d S' nx' ls ws => vops E N fz ops draw K r (setO σ1 o.dst d) S' nx' (⟨gTmp ops o ++ opTmps o, ls, o.dst.toList, ws⟩ :: acc)) → VRes E ops draw K f0 pre nx := by
      intro σ1 hσ hgd hv
      obtain ⟨d, S', nx', ls, ws, p, q, chg, hvok, hK⟩ := vop_ok hv
      refine next (.act (useOf o σ1) p d q chg) (setO σ1 o.dst d) S' nx' ⟨gTmp ops o ++ opTmps o, ls, o.dst.toList, ws⟩ ⟨fun x hx => ?_, fun x hx => ?_, fun x hx => hx, fun x hx => ?_⟩ ⟨hoN, hgd, fun x hx => ?_, fun x hx => ?_, hvok.hchg, hvok.hact⟩ hvok.hnx ?_ ⟨fun t => ?_, fun l => ?_⟩ hK
      · simpa [skOf, useOf] using hx
      · simp only [skOf, List.mem_map] at hx
        obtain ⟨y, hy, rfl⟩ := hx
        exact hvok.hls y hy
      · simp only [skOf] at hx
        cases hch : chg with
        | false => rw [hch] at hx; simp at hx
        | true =>
          rw [hch] at hx
          simp only [if_true, List.mem_append, List.mem_map] at hx
          obtain ⟨w1, w2⟩ := hvok.hws hch
          rcases hx with ⟨y, hy, rfl⟩ | ⟨y, hy, rfl⟩
          · exact w1 y hy
          · exact w2 y hy
      · simp only [useOf, List.mem_map] at hx
        obtain ⟨t, _, rfl⟩ := hx
        simp only
        rw [hmt.t, hσ]
      · rw [hmt.s]; exact hvok.hpre x hx
      · intro use p' d' q' chg' he l h1 h2
        cases he
        exact hvok.hnew l h1 h2
      · rw [rn_snoc hops hl, fT_wr2 (.inr ⟨_, _, _, _, rfl⟩), getT_setO, hmt.t, hσ]
      · rw [rn_snoc hops hl, fS_wr (fun x hx => by rw [hmt.s]; exact hvok.hpre x hx) hvok.hchg, hmt.s, hvok.hupd]
    unfold vops at h
    split at h
    · rename_i hg
      exact act σ (fun _ => rfl) (.inl hg) h
    · rename_i j b hg
      obtain ⟨t, ht, h⟩ := h
      have hoj : ∃ oj, ops[j]? = some oj ∧ oj.dst = some t := by
        unfold gDst at ht
        cases hj : ops[j]? with
        | none => rw [hj] at ht; simp at ht
        | some oj => rw [hj] at ht; exact ⟨oj, rfl, by simpa using ht⟩
      obtain ⟨oj, hoj1, hoj2⟩ := hoj
      rcases h with ⟨hq, h0⟩ | ⟨q, hq, h1, h2⟩
      · refine next .skip (setO σ o.dst (.v (.tuple #[]))) S nx ⟨gTmp ops o, [], o.dst.toList, []⟩ ⟨fun x hx => hx, fun x hx => by simp [skOf] at hx, fun x hx => hx, fun x hx => by simp [skOf] at hx⟩ ⟨hoN, j, b, t, oj, hg, hoj1, hoj2, .inr (by rw [hmt.t, hq])⟩ (Nat.le_refl _) (by simp) ⟨fun u => ?_, fun l => ?_⟩ h0
        · rw [rn_snoc hops hl, fT_wr2 (.inl ⟨rfl, rfl⟩), getT_setO, hmt.t]
        · rw [rn_snoc hops hl, fS_skip, hmt.s]
      by_cases hqb : q = b
      · subst hqb
        refine act (setT σ t (.v (.bool q))) (fun u => ?_) (.inr ⟨j, q, t, oj, hg, hoj1, hoj2, by rw [hmt.t, hq]⟩) (h1 rfl)
        rw [getT_setT]
        split
        · rename_i e; subst e; exact hq.symm
        · rfl
      · have hqb' : q = !b := by cases q <;> cases b <;> simp_all
        subst hqb'
        have hσ : ∀ u, getT (setT σ t (.v (.bool !b))) u = getT σ u := by
          intro u
          rw [getT_setT]
          split
          · rename_i e; subst e; exact hq.symm
          · rfl
        refine next .skip (setO (setT σ t (.v (.bool !b))) o.dst (.v (.tuple #[]))) S nx ⟨gTmp ops o, [], o.dst.toList, []⟩ ⟨fun x hx => hx, fun x hx => by simp [skOf] at hx, fun x hx => hx, fun x hx => by simp [skOf] at hx⟩ ⟨hoN, j, b, t, oj, hg, hoj1, hoj2, .inl (by rw [hmt.t, hq])⟩ (Nat.le_refl _) (by simp) ⟨fun u => ?_, fun l => ?_⟩ (h2 rfl)
        · rw [rn_snoc hops hl, fT_wr2 (.inl ⟨rfl, rfl⟩), getT_setO, hmt.t, hσ]
        · rw [rn_snoc hops hl, fS_skip, hmt.s]
end Go.Abs
