/-
  A map with string keys, its elements held as they lie (bools, pointers): what stands at each key, and whether. No condition.
-/
import Derived.Test.YtgacpkbpbckgiaaRowL
import Derived.Maps.OwnSet
import Derived.StringKeys
namespace Go.Proofs.Ytgacpkbpbckgiaa
open Go Go.RowKit
set_option linter.unusedVariables false

/-- An element reads as itself. -/
def heldR (v : Value) : Option (DataW Value × List MemPlace) := some (.held v, [])
/-- Block b is a map of at most n entries (k: the keys' type, strings) with f's elements. -/
def HM (P : Program) (k : TypeId) (w : World) (b n : Nat) (f : List UInt8 → Option Value) : Prop :=
  ∃ D, w.ownsMap P k heldR b n D ∧ ∀ (s : List UInt8) (z : DataW Value), D.atKey (.string s) z = match f s with | some v => .held v | none => z

section
variable {P : Program} {k : TypeId} {w w' : World} {b n : Nat} {f : List UInt8 → Option Value}
theorem HM.made (P : Program) (k : TypeId) (w : World) : HM P k (w.alloc (.map #[] 0)) w.heap.size 0 (fun _ => none) := ⟨_, World.ownsMap_made w P k heldR, fun _ _ => rfl⟩
theorem HM.lt (h : HM P k w b n f) : b < w.heap.size := by obtain ⟨D, o, _⟩ := h; exact o.lt
theorem HM.block (h : HM P k w b n f) : ∃ es c, w.heap[b]? = some (.map es c) := by obtain ⟨D, ⟨es, c, hb, _⟩, _⟩ := h; exact ⟨es, c, hb⟩
theorem HM.keep (h : HM P k w b n f) (e : w'.heap[b]? = w.heap[b]?) : HM P k w' b n f := by
  obtain ⟨D, ⟨es, c, hb, r⟩, a⟩ := h
  exact ⟨D, ⟨es, c, e.trans hb, r⟩, a⟩
theorem HM.drewN (h : HM P k w b n f) (i : Nat) : HM P k (w.drewN i) b n f := h
theorem HM.alloc (h : HM P k w b n f) (o : Obj) : HM P k (w.alloc o) b n f := h.keep (Below.heap_alloc w o b h.lt)
theorem HM.call (h : HM P k w b n f) (hb : Below w.heap.size w w') : HM P k w' b n f := h.keep (hb.block b h.lt)
theorem HM.turn {B : Nat} {T : List TypeId} (h : HM P k w b n f) (t : Turn B T false w w') : HM P k w' b n f := by
  obtain ⟨es, c, hb⟩ := h.block
  exact h.keep (t.map rfl b es c hb)
theorem HM.set_ (h : HM P k w b n f) {g : Nat} {t : TypeId} {cs : Array Value} (hg : Blk w g t cs) (i : Nat) (u : Value) : HM P k (w.setCell ⟨g, i, none⟩ u) b n f := by
  refine h.keep (Below.heap_setCell _ _ _ _ ?_)
  intro e
  obtain ⟨es, c, hb⟩ := h.block
  rw [show b = g from e, show w.heap[g]? = _ from hg] at hb
  injection hb with hb
  cases hb
theorem HM.setL (h : HM P k w b n f) {base : Nat} {e : TypeId} {size m c : Nat} {g : Nat} {xs : List Value} (hr : rowL w base e size (some ⟨g, 0, none⟩) m c xs) (i : Nat) (u : Value) : HM P k (w.setCell ⟨g, i, none⟩ u) b n f := by
  rcases hr.2 with ⟨e1, _⟩ | ⟨g', cur, e1, _, hb, _⟩
  · cases e1
  · injection e1 with e1
    injection e1 with e1
    subst e1
    exact h.set_ hb i u
theorem HM.grownL (h : HM P k w b n f) {base : Nat} {e : TypeId} {size m c : Nat} {A : Option Addr} {xs : List Value} (hr : rowL w base e size A m c xs) (hg : w.grownBy w' (blkOf A)) : HM P k w' b n f := by
  refine h.keep (hg.block b h.lt ?_)
  rcases hr.2 with ⟨rfl, _⟩ | ⟨g', cur, rfl, _, hb, _⟩
  · simp [blkOf]
  · intro e
    obtain rfl : b = g' := by simpa [blkOf] using e
    obtain ⟨es, c, hb'⟩ := h.block
    rw [show w.heap[b]? = _ from hb] at hb'
    injection hb' with hb'
    cases hb'
theorem HM.ne_blk (h : HM P k w b n f) {g : Nat} {t : TypeId} {cs : Array Value} (hg : Blk w g t cs) : g ≠ b := by
  rintro rfl
  obtain ⟨es, c, hb⟩ := h.block
  rw [show w.heap[g]? = _ from hg] at hb
  injection hb with hb
  cases hb
/-- Beside a map that has turned. -/
theorem Blk.mapped {g : Nat} {t : TypeId} {cs : Array Value} (hg : Blk w g t cs) (h : HM P k w b n f) (hb : w.grownBy w' (some b)) : Blk w' g t cs := hg.grown hb (by intro e; exact h.ne_blk hg (by simpa using e))
theorem rowL.mapped {base : Nat} {e : TypeId} {size m c : Nat} {A : Option Addr} {xs : List Value} (hr : rowL w base e size A m c xs) (h : HM P k w b n f) (hb : w.grownBy w' (some b)) : rowL w' base e size A m c xs := hr.keep fun _ _ _ x => x.mapped h hb
theorem Turn.mapped {B : Nat} {T : List TypeId} {a : World} (t : Turn B T true a w) (h : HM P k w b n f) (hg : w.grownBy w' (some b)) (hB : B ≤ b) (hw : B ≤ w.heap.size) : Turn B T true a w' := by
  refine t.trans ⟨hg.os, hg.tape, hg.output, hg.size, fun i hi => hg.block i (by omega) (by simp; omega), fun i cs ty fr hi _ => hg.block i (Array.getElem?_eq_some_iff.1 hi).1 ?_, fun e => by cases e⟩
  intro e
  obtain rfl : i = b := by simpa using e
  obtain ⟨es, c, hb⟩ := h.block
  rw [hi] at hb
  injection hb with hb
  cases hb
/-- A row of a type of T, cut short or not, has grown. -/
theorem Turn.grownL {B : Nat} {T : List TypeId} {m : Bool} {a v v' : World} (t : Turn B T m a v) {e : TypeId} {size i c : Nat} {A : Option Addr} {xs : List Value} (hr : rowL v B e size A i c xs) (hg : v.grownBy v' (blkOf A)) (ht : T.contains e = true) (hB : B ≤ a.heap.size) : Turn B T m a v' := by
  have hs : B ≤ v.heap.size := Nat.le_trans hB t.size
  rcases hr.2 with ⟨rfl, _⟩ | ⟨g, cur, rfl, hbg, hh, _⟩
  · exact t.grown hg hB
  · have hne : ∀ x, x ≠ g → some x ≠ blkOf (some ⟨g, 0, none⟩) := by intro x hx; simp [blkOf, hx]
    refine t.trans ⟨hg.os, hg.tape, hg.output, hg.size, fun x hx => hg.block x (by omega) (hne x (by omega)), fun x cs t fr hx ht' => hg.block x (Array.getElem?_eq_some_iff.1 hx).1 (hne x ?_), fun _ x es c hx => hg.block x (Array.getElem?_eq_some_iff.1 hx).1 (hne x ?_)⟩
    · rintro rfl
      rw [show v.heap[x]? = _ from hh] at hx
      injection hx with hx
      injection hx with _ e _
      subst e
      rw [ht] at ht'
      cases ht'
    · rintro rfl
      rw [show v.heap[x]? = _ from hh] at hx
      injection hx with hx
      cases hx
/-- A row that is new since a has grown. -/
theorem Turn.grownN {B : Nat} {T : List TypeId} {m : Bool} {a v v' : World} (t : Turn B T m a v) {e : TypeId} {size i c : Nat} {A : Option Addr} {xs : List Value} (hr : rowL v a.heap.size e size A i c xs) (hg : v.grownBy v' (blkOf A)) (hB : B ≤ a.heap.size) : Turn B T m a v' := by
  have hne : ∀ x, x < a.heap.size → some x ≠ blkOf A := by
    intro x hx
    rcases hr.2 with ⟨rfl, _⟩ | ⟨g, cur, rfl, hbg, hh, _⟩
    · simp [blkOf]
    · simp [blkOf]; omega
  have hz := t.size
  refine ⟨hg.os.trans t.os, hg.tape.trans t.tape, hg.output.trans t.output, Nat.le_trans t.size hg.size, fun x hx => (hg.block x (by omega) (hne x (by omega))).trans (t.low x hx), fun x cs ty fr hx hT => ?_, fun hm x es c hx => ?_⟩
  · have hl := (Array.getElem?_eq_some_iff.1 hx).1
    exact (hg.block x (by omega) (hne x hl)).trans (t.far x cs ty fr hx hT)
  · have hl := (Array.getElem?_eq_some_iff.1 hx).1
    exact (hg.block x (by omega) (hne x hl)).trans (t.map hm x es c hx)
/-- A store into an element of a row. -/
theorem Turn.setL {B : Nat} {T : List TypeId} {m : Bool} {a v : World} (t : Turn B T m a v) {e : TypeId} {size i c g : Nat} {xs : List Value} (hr : rowL v B e size (some ⟨g, 0, none⟩) i c xs) (ht : T.contains e = true) (j : Nat) (u : Value) : Turn B T m a (v.setCell ⟨g, j, none⟩ u) := by
  rcases hr.2 with ⟨h, _⟩ | ⟨g', cur, h, hbg, hh, _⟩
  · cases h
  · injection h with h
    injection h with h
    subst h
    exact t.setB hh ht hbg j u
theorem Blk.setL {v : World} {p : Nat} {t : TypeId} {cs : Array Value} (hp : Blk v p t cs) {base : Nat} {e : TypeId} {size i c g : Nat} {xs : List Value} (hr : rowL v base e size (some ⟨g, 0, none⟩) i c xs) (hne : e ≠ t) (j : Nat) (u : Value) : Blk (v.setCell ⟨g, j, none⟩ u) p t cs := by
  refine hp.far ?_ u
  intro e
  exact hr.blk_ne hp hne (by rw [show p = g from e]; rfl)

variable {t e : TypeId}
theorem HM.lookup (h : HM P k w b n f) (hk : P.underlying k = some .string) (ht : P.underlying t = some (.map k e)) {z : Value} (hz : (zeroValue e).run P w = .ok z w) {s : ByteArray} (hs : s.size ≤ maxLen) :
    (Instr.lookup t (.map (some b)) (.string s) false).run P w = .ok ((f s.data.toList).getD z) w := by
  obtain ⟨D, o, a⟩ := h
  obtain ⟨v, ps, hrun, hv⟩ := o.lookup (zd := .held z) (zp := []) (Maps.string_keyed hk) ht hz rfl (WideMaps.keyOf_string_mk hk hs)
  rw [a] at hv
  rw [hrun]
  cases hf : f s.data.toList with
  | none =>
    rw [hf] at hv
    injection hv with hv
    injection hv with hv _
    injection hv with hv
    rw [hv]
    rfl
  | some u =>
    rw [hf] at hv
    injection hv with hv
    injection hv with hv _
    injection hv with hv
    rw [hv]
    rfl
theorem HM.look (h : HM P k w b n f) (hk : P.underlying k = some .string) (ht : P.underlying t = some (.map k e)) {z : Value} (hz : (zeroValue e).run P w = .ok z w) {s : ByteArray} (hs : s.size ≤ maxLen) :
    (Instr.lookup t (.map (some b)) (.string s) true).run P w = .ok (.tuple #[(f s.data.toList).getD z, .bool (f s.data.toList).isSome]) w := by
  obtain ⟨D, o, a⟩ := h
  obtain ⟨v, ps, hrun, hv⟩ := o.look_ok (zd := .held z) (zp := []) (Maps.string_keyed hk) ht hz rfl (WideMaps.keyOf_string_mk hk hs)
  rw [a] at hv
  rw [hrun]
  cases hf : f s.data.toList with
  | none =>
    have hh : Maps.has D (.string s.data.toList) = false := Maps.has_false_of_atKey (fun x => by rw [a, hf])
    rw [hf] at hv
    injection hv with hv
    injection hv with hv _
    injection hv with hv
    rw [hv, hh]
    rfl
  | some u =>
    have hh : Maps.has D (.string s.data.toList) = true := Maps.has_true_of_atKey (y := .held u) (fun x => by rw [a, hf])
    rw [hf] at hv
    injection hv with hv
    injection hv with hv _
    injection hv with hv
    rw [hv, hh]
    rfl
theorem HM.put (h : HM P k w b n f) (hk : P.underlying k = some .string) (ht : P.underlying t = some (.map k e)) (hn : n < maxLen) {s : ByteArray} (hs : s.size ≤ maxLen) (v : Value) :
    ∃ w', (Instr.mapUpdate t (.map (some b)) (.string s) v).run P w = .ok () w' ∧ HM P k w' b (n + 1) (fun x => if x = s.data.toList then some v else f x) ∧ w.grownBy w' (some b) := by
  obtain ⟨D, o, a⟩ := h
  obtain ⟨w', hrun, o', hg⟩ := o.update (d := .held v) (ps := []) (val := v) (Maps.string_keyed hk) ht hn (WideMaps.keyOf_string_mk hk hs) rfl
  refine ⟨w', hrun, ⟨_, o', fun x z => ?_⟩, hg⟩
  by_cases e : x = s.data.toList
  · subst e
    rw [Maps.atKey_put_same o.isMap (show WideAt.IsKeyLit (.string _) from trivial)]
    simp
  · rw [Maps.atKey_put_other (k := .string s.data.toList) (k' := .string x) (by simpa using e), a]
    simp [e]
theorem wpList_putH {ops : Array Oper} {rest : List Oper} {o : Oper} {a : Act} {Q : Exit → Act → World → Prop} (h : HM P k w b n f) (hk : P.underlying k = some .string) (ht : P.underlying t = some (.map k e)) (hn : n < maxLen)
    (hg : o.guard = none) (m x v : Operand) (hop : o.op = Op.mapUpdate t m x v) {s : ByteArray} (hs : s.size ≤ maxLen) (val : Value) (hm : a.eval m = .map (some b)) (hx : a.eval x = .string s) (hv : a.eval v = val)
    (hK : ∀ w', HM P k w' b (n + 1) (fun x => if x = s.data.toList then some val else f x) → w.grownBy w' (some b) → wpList P ops Q rest (a.put o.dst undef) w') : wpList P ops Q (o :: rest) a w := by
  refine wpList_plain hg fun K' hK' => ?_
  obtain ⟨w', hrun, r1, r2⟩ := h.put hk ht hn hs val
  unfold Oper.wp
  simp [execOp, hop, hm, hx, hv, hrun, Result.andThen]
  exact hK' _ _ (hK w' r1 r2)
end
end Go.Proofs.Ytgacpkbpbckgiaa
