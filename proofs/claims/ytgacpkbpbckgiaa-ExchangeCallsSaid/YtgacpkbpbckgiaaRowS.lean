/-
  Rows: an argument that is a slice of structs of one-cell fields, opened cell by cell. No condition.
-/
import Derived.Test.YtgacpkbpbckgiaaKit
import Derived.Deep.Slices
import Derived.Deep.Fields
import Derived.ChangeSame
import Derived.OpenShut
namespace Go.Proofs.Ytgacpkbpbckgiaa
open Go Go.ChangeShapes Go.WideShapes Go.RowKit Go.Deep

section
variable {H : Type} {enc : TypeId × Value → H} {P : Program} {w : World} {base : Nat} {spare : Nat → Bool} {held : Bool}
/-- Each element's each field has its cell, and its own reading. -/
theorem open_cells {t e : TypeId} {fs : Array Field} {fuel : Nat} {v : Value} {x : DataW H × List MemPlace} (ht : P.underlying t = some (.slice e)) (he : P.underlying e = some (.struct fs)) (hone : oneCellFields P fs = true) (hC : P.cellsOf e = fs.size)
    (h : DataW.trod enc P w base spare held fuel t v.cells.toList = some x) (hv1 : v.cells.toList = [v]) :
    v = .slice none 0 0 ∨ ∃ (a : Addr) (len cap : Nat), v = .slice (some a) len cap ∧ len ≤ cap ∧ cap ≤ maxLen ∧
      ∀ i, i < len → ∀ (j : Nat) (f : Field), fs[j]? = some f → ∃ (n : Nat) (u : Value) (y : DataW H × List MemPlace), w.cell? (a.add (i * fs.size + j)) = some u ∧ DataW.trod enc P w base spare held n f.type [u] = some y := by
  rcases open_slice ht h with h0 | ⟨a, len, cap, m, n, D, Pl, hcs, hb, hl, hm, hmm, hx, hi⟩
  · rw [hv1] at h0
    exact .inl (by simpa using h0.1)
  · rw [hv1] at hcs
    refine .inr ⟨a, len, cap, by simpa using hcs, hl, hm, fun i him j f hj => ?_⟩
    have hlm : len ≤ m := by rw [hmm]; split <;> omega
    obtain ⟨cs', hc, ht'⟩ := hi i (by omega)
    rw [hC] at hc
    obtain ⟨ys, n', _, _, hlen, hyl, hf⟩ := DataW.trod_struct he ht'
    obtain ⟨_, hcl, hat⟩ := World.cells?_some hc
    obtain ⟨ho, hk⟩ := hone_of hone j f hj
    have hjl : j < fs.size := (Array.getElem?_eq_some_iff.1 hj).1
    have hcell := hat j hjl
    have hv : cs'[j]? = some (cs'[j]'(by omega)) := List.getElem?_eq_getElem (by omega)
    have h1 := hf j f hj
    rw [ho, hk] at h1
    have h2 : (cs'.drop j).take 1 = [cs'[j]'(by omega)] := by
      rw [List.drop_eq_getElem_cons (by omega)]
      rfl
    rw [h2] at h1
    have hys : ys[j]? = some (ys[j]'(by omega)) := List.getElem?_eq_getElem (by omega)
    exact ⟨_, _, _, by rw [← Go.Deep.add_add, hcell, hv], h1.trans hys⟩
/-- A field that is an integer; a string. -/
theorem field_int {n : Nat} {t : TypeId} {q : IntKind} {u : Value} {y : DataW H × List MemPlace} (ht : P.underlying t = some (.int q)) (h : DataW.trod enc P w base spare held n t [u] = some y) : ∃ z, u = .int q z ∧ (Lit.int q z).wf = true := by
  obtain ⟨z, e, _, wz⟩ := DataW.trod_int ht h
  simp at e
  exact ⟨z, e, wz⟩
theorem field_string {n : Nat} {t : TypeId} {u : Value} {y : DataW H × List MemPlace} (ht : P.underlying t = some .string) (h : DataW.trod enc P w base spare held n t [u] = some y) : ∃ s : ByteArray, u = .string s ∧ s.size ≤ maxLen := by
  obtain ⟨s, e, _, ws⟩ := DataW.trod_string ht h
  simp at e
  exact ⟨s, e, by first | exact ws | simpa using ws⟩
end

/-- A list of records out of their cells. -/
theorem records {α : Type} (f : α → List Value) (k : Nat) (hk : ∀ x, (f x).length = k) {w : World} {a : Addr} : ∀ (len : Nat), (∀ i, i < len → ∃ x : α, ∀ j u, (f x)[j]? = some u → w.cell? (a.add (i * k + j)) = some u) →
    ∃ l : List α, l.length = len ∧ ∀ j u, (l.flatMap f)[j]? = some u → w.cell? (a.add j) = some u
  | 0, _ => ⟨[], rfl, fun j u h => by simp at h⟩
  | n + 1, h => by
    obtain ⟨l, hl, hc⟩ := records f k hk n (fun i hi => h i (by omega))
    obtain ⟨x, hx⟩ := h n (by omega)
    have hlen : (l.flatMap f).length = n * k := by
      rw [← hl]
      clear hl hc
      induction l with
      | nil => simp
      | cons y l ih => rw [List.flatMap_cons, List.length_append, hk, ih, List.length_cons, Nat.succ_mul, Nat.add_comm]
    refine ⟨l ++ [x], by simp [hl], fun j u hu => ?_⟩
    rw [List.flatMap_append] at hu
    by_cases hj : j < n * k
    · rw [List.getElem?_append_left (by rw [hlen]; exact hj)] at hu
      exact hc j u hu
    · rw [List.getElem?_append_right (by rw [hlen]; omega), hlen] at hu
      have := hx (j - n * k) u (by simpa using hu)
      rwa [show n * k + (j - n * k) = j by omega] at this
/-- Cells from an address on, as a slice that reads as them. -/
theorem RD.of_addr {w : World} {a : Addr} {xs : List Value} (hc : ∀ j u, xs[j]? = some u → w.cell? (a.add j) = some u) : RD w (some a) xs.length xs := by
  refine ⟨rfl, fun hn => ?_⟩
  obtain ⟨b, off, spot⟩ := a
  have h0 := hc 0 _ (List.getElem?_eq_getElem hn)
  obtain rfl : spot = none := by simpa [Addr.add] using World.cell?_spot h0
  refine ⟨b, off, rfl, ?_, fun j u hu => ?_⟩
  · have := World.block_lt_of_cell? _ _ h0
    rwa [Addr.add_lit] at this
  · have := hc j u hu
    rwa [Addr.add_lit] at this
end Go.Proofs.Ytgacpkbpbckgiaa
