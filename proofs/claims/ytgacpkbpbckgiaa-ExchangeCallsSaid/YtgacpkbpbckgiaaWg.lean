/-
  Exchange: walk over Reply. Condition: the state is one that the calls make.
-/
import Derived.Test.YtgacpkbpbckgiaaWf
namespace Go.Proofs.Ytgacpkbpbckgiaa
open Go.RowKit
set_option linter.unusedVariables false

/-! ### One request turned -/
def updZ (key : ByteArray) (g : Im → Im) (zs : List (Nat × Im)) : List (Nat × Im) := zs.map fun z => (z.1, if z.2.key = key then g z.2 else z.2)
section
variable {key : ByteArray} {g : Im → Im} {zs : List (Nat × Im)}
theorem updZ_snd : (updZ key g zs).map Prod.snd = upd key g (zs.map Prod.snd) := by
  unfold updZ upd
  rw [List.map_map, List.map_map]
  rfl
theorem updZ_fst : (updZ key g zs).map Prod.fst = zs.map Prod.fst := by
  unfold updZ
  rw [List.map_map]
  rfl
theorem updZ_len : (updZ key g zs).length = zs.length := by unfold updZ; rw [List.length_map]
theorem updZ_look (hg : ∀ x, (g x).key = x.key) : lookZ (updZ key g zs) = lookZ zs := by
  funext k
  unfold lookZ updZ
  rw [List.find?_map]
  have e : ((fun z : Nat × Im => decide (z.2.key.data.toList = k)) ∘ fun z : Nat × Im => (z.1, if z.2.key = key then g z.2 else z.2)) = fun z => decide (z.2.key.data.toList = k) := by
    funext z
    show decide ((if z.2.key = key then g z.2 else z.2).key.data.toList = k) = _
    split
    · rw [hg]
    · rfl
  rw [e, Option.map_map]
  cases zs.find? fun z => decide (z.2.key.data.toList = k) <;> rfl
theorem uniqZ (hn : ((zs.map Prod.snd).map Im.key).Nodup) {y z : Nat × Im} (hy : y ∈ zs) (hz : z ∈ zs) (e : y.2.key = z.2.key) : y = z := by
  rw [List.map_map] at hn
  induction zs with
  | nil => cases hy
  | cons a l ih =>
    rw [List.map_cons, List.nodup_cons] at hn
    have hk : ∀ u ∈ l, u.2.key ≠ a.2.key := fun u hu h => hn.1 (List.mem_map.2 ⟨u, hu, h⟩)
    rcases List.mem_cons.1 hy with e1 | h1
    · rcases List.mem_cons.1 hz with e2 | h2
      · rw [e1, e2]
      · exact absurd (by rw [← e, e1]) (hk z h2)
    · rcases List.mem_cons.1 hz with e2 | h2
      · exact absurd (by rw [e, e2]) (hk y h1)
      · exact ih hn.2 h1 h2
theorem updZ_same (h : ∀ z ∈ zs, z.2.key = key → g z.2 = z.2) : updZ key g zs = zs := by
  unfold updZ
  conv => rhs; rw [← List.map_id zs]
  refine List.map_congr_left fun z hz => ?_
  split
  · rename_i e
    rw [h z hz e]
    rfl
  · rfl
theorem updZ_pnd_same (h : ∀ z ∈ zs, z.2.key = key → pendB (g z.2) = pendB z.2) : (pnd (updZ key g zs)).map ptrZ = (pnd zs).map ptrZ := by
  unfold pnd updZ
  rw [List.filter_map, List.map_map]
  have e : ∀ l : List (Nat × Im), (∀ z ∈ l, z.2.key = key → pendB (g z.2) = pendB z.2) → l.filter ((fun z : Nat × Im => pendB z.2) ∘ fun z : Nat × Im => (z.1, if z.2.key = key then g z.2 else z.2)) = l.filter fun z => pendB z.2 := by
    intro l hl
    refine List.filter_congr fun z hz => ?_
    show pendB (if z.2.key = key then g z.2 else z.2) = pendB z.2
    split
    · rename_i hk; exact hl z hz hk
    · rfl
  rw [e zs h]
  rfl
theorem keepB_iff (z : Nat × Im) : keepB key z = decide (z.2.key ≠ key) := by
  unfold keepB
  by_cases e : z.2.key = key
  · simp [e]
  · have : ¬ z.2.key.toList = key.toList := fun h => e (bytes_inj h)
    simp [e, this]
theorem updZ_pnd_gone (h : ∀ z ∈ zs, z.2.key = key → pendB (g z.2) = false) : pnd (updZ key g zs) = (pnd zs).filter (keepB key) := by
  unfold pnd updZ
  rw [List.filter_map, List.filter_filter]
  have e1 : zs.filter ((fun z : Nat × Im => pendB z.2) ∘ fun z : Nat × Im => (z.1, if z.2.key = key then g z.2 else z.2)) = zs.filter fun z => keepB key z && pendB z.2 := by
    refine List.filter_congr fun z hz => ?_
    show pendB (if z.2.key = key then g z.2 else z.2) = _
    rw [keepB_iff]
    split
    · rename_i hk
      rw [h z hz hk]
      simp [hk]
    · rename_i hk
      simp [hk]
  rw [e1]
  conv => rhs; rw [← List.map_id (zs.filter _)]
  refine List.map_congr_left fun z hz => ?_
  have hk := (List.mem_filter.1 hz).2
  rw [keepB_iff] at hk
  simp only [Bool.and_eq_true, decide_eq_true_eq] at hk
  rw [if_neg hk.1]
  rfl
end
theorem blk5_s4 {w : World} {g : Nat} {t : TypeId} {a b c d e : Value} (h : Blk w g t #[a, b, c, d, e]) (u : Value) : Blk (w.setCell ⟨g, 4, none⟩ u) g t #[a, b, c, d, u] := by simpa using h.set_ 4 u
theorem blk5_s2 {w : World} {g : Nat} {t : TypeId} {a b c d e : Value} (h : Blk w g t #[a, b, c, d, e]) (u : Value) : Blk (w.setCell ⟨g, 2, none⟩ u) g t #[a, b, u, d, e] := by simpa using h.set_ 2 u
/-- The other requests' blocks, one being written. -/
theorem ZOk.turn1 {w w' : World} {B : Nat} {t : Int} {zs : List (Nat × Im)} {key : ByteArray} {g : Im → Im} {gp : Nat} {x : Im} (h : ZOk w B t zs) (hx : (gp, x) ∈ zs) (hk : x.key = key) (hu : ∀ z ∈ zs, z.2.key = key → z = (gp, x))
    (hn : Blk w' gp 76 (imC t (g x))) (hf : ∀ q cs, q ≠ gp → Blk w q 76 cs → Blk w' q 76 cs) : ZOk w' B t (updZ key g zs) := by
  refine ⟨by rw [updZ_fst]; exact h.1, fun z hz => ?_⟩
  obtain ⟨y, hy, rfl⟩ := List.mem_map.1 hz
  obtain ⟨h1, h2⟩ := h.2 y hy
  refine ⟨h1, ?_⟩
  by_cases e : y.2.key = key
  · obtain rfl := hu y hy e
    show Blk w' gp 76 (imC t (if x.key = key then g x else x))
    rw [if_pos hk]
    exact hn
  · simp only [e, if_false]
    refine hf _ _ (fun hq => e ?_) h2
    have : y = (gp, x) := by
      have hnd := h.1
      clear hn hf hz h2 h1 hu e
      induction zs with
      | nil => cases hy
      | cons a l ih =>
        rw [List.map_cons, List.nodup_cons] at hnd
        rcases List.mem_cons.1 hy with e1 | h1
        · rcases List.mem_cons.1 hx with e2 | h2
          · rw [e1, e2]
          · exact absurd (List.mem_map.2 ⟨_, h2, by rw [← e1, hq]⟩) hnd.1
        · rcases List.mem_cons.1 hx with e2 | h2
          · exact absurd (List.mem_map.2 ⟨_, h1, by rw [← e2, hq]⟩) hnd.1
          · exact ih ⟨hnd.2, fun z hz => h.2 z (List.mem_cons_of_mem _ hz)⟩ h2 h1 hnd.2
    rw [this]
    exact hk
end Go.Proofs.Ytgacpkbpbckgiaa
