/-
  Rows: an argument that is a slice of strings, opened. No condition.
-/
import Derived.Test.YtgacpkbpbckgiaaRowS
namespace Go.Proofs.Ytgacpkbpbckgiaa
open Go Go.ChangeShapes Go.WideShapes Go.RowKit Go.Deep

section
variable {H : Type} {enc : TypeId × Value → H} {P : Program} {w : World} {base : Nat} {spare : Nat → Bool} {held : Bool}
theorem open_strs {t e : TypeId} {fuel : Nat} {v : Value} {x : DataW H × List MemPlace} (ht : P.underlying t = some (.slice e)) (he : P.underlying e = some .string) (hC : P.cellsOf e = 1)
    (h : DataW.trod enc P w base spare held fuel t v.cells.toList = some x) (hv1 : v.cells.toList = [v]) :
    v = .slice none 0 0 ∨ ∃ (a : Addr) (len cap : Nat) (l : List ByteArray), v = .slice (some a) len cap ∧ len ≤ cap ∧ cap ≤ maxLen ∧ l.length = len ∧ (∀ j u, (l.map Value.string)[j]? = some u → w.cell? (a.add j) = some u) ∧ ∀ s ∈ l, s.size ≤ maxLen := by
  rcases open_slice ht h with h0 | ⟨a, len, cap, m, n, D, Pl, hcs, hb, hl, hm, hmm, hx, hi⟩
  · rw [hv1] at h0
    exact .inl (by simpa using h0.1)
  · rw [hv1] at hcs
    have hcell : ∀ i, i < len → ∃ s : ByteArray, w.cell? (a.add i) = some (.string s) ∧ s.size ≤ maxLen := by
      intro i him
      have hlm : len ≤ m := by rw [hmm]; split <;> omega
      obtain ⟨cs', hc, ht'⟩ := hi i (by omega)
      rw [hC] at hc
      obtain ⟨_, hcl, hat⟩ := World.cells?_some hc
      obtain ⟨s, es, _, ws⟩ := DataW.trod_string he ht'
      have h0 := hat 0 (by decide)
      rw [es, Nat.mul_one] at h0
      refine ⟨s, ?_, by first | exact ws | simpa using ws⟩
      have e0 : (a.add i).add 0 = a.add i := by simp [Addr.add]
      rw [e0] at h0
      simpa using h0
    obtain ⟨l, hll, hc⟩ := records (α := { s : ByteArray // s.size ≤ maxLen }) (fun s => [Value.string s.1]) 1 (fun _ => rfl) (w := w) (a := a) len (fun i him => by
      obtain ⟨s, h1, h2⟩ := hcell i him
      refine ⟨⟨s, h2⟩, fun j u hu => ?_⟩
      match j, hu with
      | 0, hu => simp at hu; subst hu; rw [Nat.mul_one, Nat.add_zero]; exact h1
      | j + 1, hu => simp at hu)
    have e : (l.map (·.1)).map Value.string = l.flatMap fun s => [Value.string s.1] := by
      clear hll hc
      induction l with
      | nil => rfl
      | cons s l ih => rw [List.map_cons, List.map_cons, List.flatMap_cons, ih]; rfl
    refine .inr ⟨a, len, cap, l.map (·.1), by simpa using hcs, hl, hm, by simpa using hll, fun j u hu => hc j u (by rw [← e]; exact hu), fun s hs => ?_⟩
    obtain ⟨y, _, rfl⟩ := List.mem_map.1 hs
    exact y.2
end
end Go.Proofs.Ytgacpkbpbckgiaa
