/-
  What the walks of slices.Delete, slices.DeleteFunc and slices.Insert want of append, clear and copy on rows. No condition.
-/
import Derived.Test.YtgacpkbpbckgiaaMapO
import Derived.Test.YtgacpkbpbckgiaaCopy
import Derived.Lib.AppendZerosOnto
import Derived.Lib.Overlaps
namespace Go.Proofs.Ytgacpkbpbckgiaa
open Go Go.RowKit
set_option linter.unusedVariables false

section
variable {P : Program} {w w' : World} {base : Nat} {e : TypeId} {size n c : Nat} {A : Option Addr} {xs : List Value} {t : TypeId} {z : Value} {bytes : Nat}
theorem wp_appL (E : ElemT P t e z size bytes) {o : Oper} {a : Act} {K : Act → World → Prop} {Q : Exit → Act → World → Prop} (s x : Operand)
    (ho : o.op = .call { callee := .builtin .append, args := #[s, x], argTypes := #[t, t] })
    {m c' : Nat} {ys : List Value} {A' : Option Addr} (hs : a.eval s = .slice A n c) (hx : a.eval x = .slice A' m c') (h : rowL w base e size A n c xs) (hsrc : Proofs.Ytgacpkbpbckgiaa.RDn w A' size m ys)
    (h1 : ∀ u ∈ ys, u.oneCell' = true) (h63 : n + m ≤ maxLen) (hbytes : (n + m) * bytes ≤ 140737488355328) (hbase : base ≤ w.heap.size)
    (hK : ∀ A2 c2 w', rowL w' base e size A2 (n + m) c2 (xs ++ ys) → w.grownBy w' (blkOf A) → (A2 = A ∨ A2 = some ⟨w.heap.size, 0, none⟩) → K (a.put o.dst (.slice A2 (n + m) c2)) w') : o.wp P a w K Q := by
  obtain ⟨A2, c2, w', hrun, h2, h3, h4⟩ := run_appL (c' := c') E o.type h hsrc h1 h63 hbytes hbase
  unfold Oper.wp execOp
  simp only [ho, resolve, invoke, builtin, Sem.run_bind, Sem.run_pure, Result.andThen_ok, List.map_toArray, List.map_cons, List.map_nil, hs, hx, hrun]
  exact hK A2 c2 w' h2 h3 h4
/-- A row cut to n' elements, its capacity kept: 's[:n']'. -/
theorem rowL.to {g : Nat} (h : rowL w base e size (some ⟨g, 0, none⟩) n c xs) {k : Nat} (hk : k ≤ n) : rowL w base e size (some ⟨g, 0, none⟩) k c (xs.take (k * size)) := by
  have hks : k * size ≤ n * size := Nat.mul_le_mul_right _ hk
  refine ⟨by rw [List.length_take, h.1]; omega, ?_⟩
  rcases h.2 with ⟨h0, _⟩ | ⟨g', cur, e1, hb, hh, hnc, hm, hcs, hx⟩
  · cases h0
  · exact .inr ⟨g', cur, e1, hb, hh, by omega, hm, hcs, by rw [← hx, List.take_take, Nat.min_eq_left hks]⟩
/-- An append that has room: the row stays where it is. -/
theorem run_appR (E : ElemT P t e z size bytes) (ty : TypeId) {g m c' : Nat} {ys : List Value} {A' : Option Addr} (h : rowL w base e size (some ⟨g, 0, none⟩) n c xs) (hsrc : Proofs.Ytgacpkbpbckgiaa.RDn w A' size m ys)
    (h1 : ∀ u ∈ ys, u.oneCell' = true) (hroom : n + m ≤ c) :
    ∃ w', (Builtin.append_ #[t, t] ty #[.slice (some ⟨g, 0, none⟩) n c, .slice A' m c']).run P w = .ok (.slice (some ⟨g, 0, none⟩) (n + m) c) w' ∧ rowL w' base e size (some ⟨g, 0, none⟩) (n + m) c (xs ++ ys) ∧ w.grownBy w' (some g) := by
  obtain ⟨i, hi, hz0, hz1, hz2⟩ := info_parts E.hi
  obtain ⟨hl, hnone, hcell⟩ := hsrc
  rcases h.2 with ⟨h0, _⟩ | ⟨g', cur, e1, hb, hh, hnc, hm, hcs, hx⟩
  · cases h0
  · injection e1 with e1
    injection e1 with e1
    subst e1
    cases A' with
    | none =>
      obtain rfl := hnone rfl
      have hy : ys = [] := List.eq_nil_of_length_eq_zero (by omega)
      subst hy
      refine ⟨w, ?_, by simpa using h, World.grownBy.refl w _⟩
      simp [Builtin.append_, run_underlying E.ht, sizeOf, typeInfo, hi, Builtin.lenOf, Builtin.firstCells, hnc, storeCells]
    | some ad =>
      have hmul : (n + m) * size ≤ c * size := Nat.mul_le_mul_right _ hroom
      have e1 : (n + m) * size = n * size + m * size := Nat.add_mul _ _ _
      have hr := run_append_room (P := P) w t ty e i E.ht hi g n c cur hh ad m c' ys (by rw [hz1]; exact hl) (hcell ad rfl) h1 hroom (by rw [hz1]; omega)
      rw [hz1] at hr
      refine ⟨_, hr, ⟨by rw [List.length_append, h.1, hl, Nat.add_mul], .inr ⟨g, _, rfl, hb, setRow_heap w g cur _ e _ hh, hroom, hm, ?_, ?_⟩⟩, ⟨rfl, rfl, rfl, by simp [World.setRow], fun k _ hk => setRow_other w g k _ (fun e => hk (by rw [e]))⟩⟩
      · simp only [List.size_toArray, List.length_append, List.length_take, List.length_drop, Array.length_toList]
        omega
      · rw [hx, List.take_append_of_le_length (by rw [List.length_append, h.1, hl]; omega), List.take_of_length_le (by rw [List.length_append, h.1, hl]; omega)]
theorem wp_appR (E : ElemT P t e z size bytes) {o : Oper} {a : Act} {K : Act → World → Prop} {Q : Exit → Act → World → Prop} (s x : Operand)
    (ho : o.op = .call { callee := .builtin .append, args := #[s, x], argTypes := #[t, t] })
    {g m c' : Nat} {ys : List Value} {A' : Option Addr} (hs : a.eval s = .slice (some ⟨g, 0, none⟩) n c) (hx : a.eval x = .slice A' m c') (h : rowL w base e size (some ⟨g, 0, none⟩) n c xs) (hsrc : Proofs.Ytgacpkbpbckgiaa.RDn w A' size m ys)
    (h1 : ∀ u ∈ ys, u.oneCell' = true) (hroom : n + m ≤ c)
    (hK : ∀ w', rowL w' base e size (some ⟨g, 0, none⟩) (n + m) c (xs ++ ys) → w.grownBy w' (some g) → K (a.put o.dst (.slice (some ⟨g, 0, none⟩) (n + m) c)) w') : o.wp P a w K Q := by
  obtain ⟨w', hrun, h2, h3⟩ := run_appR (c' := c') E o.type h hsrc h1 hroom
  unfold Oper.wp execOp
  simp only [ho, resolve, invoke, builtin, Sem.run_bind, Sem.run_pure, Result.andThen_ok, List.map_toArray, List.map_cons, List.map_nil, hs, hx, hrun]
  exact hK w' h2 h3
/-- Cells written behind a row's end: the row stays. -/
theorem rowL.behind {g : Nat} {cur cur' : Array Value} (h : rowL w base e size (some ⟨g, 0, none⟩) n c xs) (hg : Blk w g e cur) (hg' : Blk w' g e cur') (hz : cur'.size = cur.size) (ht : cur'.toList.take (n * size) = cur.toList.take (n * size)) : rowL w' base e size (some ⟨g, 0, none⟩) n c xs := by
  refine ⟨h.1, ?_⟩
  rcases h.2 with ⟨h0, _⟩ | ⟨g', cur1, e1, hb, hh, hnc, hm, hcs, hx⟩
  · cases h0
  · injection e1 with e1
    injection e1 with e1
    subst e1
    unfold Blk at hg hh
    rw [hg] at hh
    injection hh with hh
    injection hh with hh
    subst hh
    exact .inr ⟨g, cur', rfl, hb, hg', hnc, hm, by omega, by rw [ht, hx]⟩
theorem one_zeroCells {z : Array Value} (hz : ∀ u ∈ z.toList, u.oneCell' = true) (n : Nat) : ∀ u ∈ (Builtin.zeroCells z n).toList, u.oneCell' = true := by
  intro u hu
  unfold Builtin.zeroCells at hu
  simp only [Array.toList_map, Array.toList_range, List.mem_map, List.mem_range] at hu
  obtain ⟨i, hi, rfl⟩ := hu
  have h0 : 0 < z.size := by
    rcases Nat.eq_zero_or_pos z.size with h | h
    · rw [h] at hi; omega
    · exact h
  have hlt : i % z.size < z.size := Nat.mod_lt _ h0
  rw [getElem!_pos z _ hlt]
  exact hz _ (Array.getElem_mem_toList hlt)
/-- 'clear(s[n:n+m])'. -/
theorem run_clearL (E : ElemT P t e z size bytes) (ty : TypeId) (hv : ∀ w, (zeroValue e).run P w = .ok z w) (hz1 : ∀ u ∈ z.cells.toList, u.oneCell' = true) {g m c' : Nat} (h : rowL w base e size (some ⟨g, 0, none⟩) n c xs) (hm0 : 0 < m) (hroom : n + m ≤ c) :
    ∃ w', (Builtin.clear_ #[t] ty #[.slice (some ⟨g, n * size, none⟩) m c']).run P w = .ok (.tuple #[]) w' ∧ rowL w' base e size (some ⟨g, 0, none⟩) n c xs ∧ w.grownBy w' (some g) := by
  have h' := h
  rcases h'.2 with ⟨h0, _⟩ | ⟨g', cur, e1, hb, hh, hnc, hm, hcs, hx⟩
  · cases h0
  · injection e1 with e1
    injection e1 with e1
    subst e1
    have hlen : (Builtin.zeroCells z.cells m).toList.length = m * size := by rw [Array.length_toList, size_zeroCells, E.hz]
    have hmul : (n + m) * size ≤ c * size := Nat.mul_le_mul_right _ hroom
    have e2 : (n + m) * size = n * size + m * size := Nat.add_mul _ _ _
    have hst := run_storeCells_at P g (n * size) e (Builtin.zeroCells z.cells m).toList 0 cur w hh (by rw [hlen]; omega) (one_zeroCells hz1 m)
    obtain ⟨k, rfl⟩ : ∃ k, m = k + 1 := ⟨m - 1, by omega⟩
    obtain ⟨cur2, hc2⟩ : ∃ cur2, cur2 = (cur.toList.take (n * size + 0) ++ (Builtin.zeroCells z.cells (k + 1)).toList ++ cur.toList.drop (n * size + 0 + (Builtin.zeroCells z.cells (k + 1)).toList.length)).toArray := ⟨_, rfl⟩
    rw [← hc2] at hst
    refine ⟨w.setRow g cur2, ?_, h.behind hh (setRow_heap w g cur cur2 e _ hh) ?_ ?_, ⟨rfl, rfl, rfl, by simp [World.setRow], fun k _ hk => setRow_other w g k _ (fun e => hk (by rw [e]))⟩⟩
    · simp only [Builtin.clear_]
      simp [run_underlying E.ht, hv, hst]
    · rw [hc2]
      simp only [List.size_toArray, List.length_append, List.length_take, List.length_drop, Array.length_toList, hlen] at *
      omega
    · rw [hc2]
      simp only [Nat.add_zero]
      rw [List.append_assoc, List.take_append_of_le_length (by rw [List.length_take, Array.length_toList]; omega), List.take_take, Nat.min_self]
theorem wp_clearL (E : ElemT P t e z size bytes) (hv : ∀ w, (zeroValue e).run P w = .ok z w) (hz1 : ∀ u ∈ z.cells.toList, u.oneCell' = true) {o : Oper} {a : Act} {K : Act → World → Prop} {Q : Exit → Act → World → Prop} (s : Operand)
    (ho : o.op = .call { callee := .builtin .clear, args := #[s], argTypes := #[t] })
    {g m c' : Nat} (hs : a.eval s = .slice (some ⟨g, n * size, none⟩) m c') (h : rowL w base e size (some ⟨g, 0, none⟩) n c xs) (hm0 : 0 < m) (hroom : n + m ≤ c)
    (hK : ∀ w', rowL w' base e size (some ⟨g, 0, none⟩) n c xs → w.grownBy w' (some g) → K (a.put o.dst (.tuple #[])) w') : o.wp P a w K Q := by
  obtain ⟨w', hrun, h2, h3⟩ := run_clearL (c' := c') E o.type hv hz1 h hm0 hroom
  unfold Oper.wp execOp
  simp only [ho, resolve, invoke, builtin, Sem.run_bind, Sem.run_pure, Result.andThen_ok, List.map_toArray, List.map_cons, List.map_nil, hs, hrun]
  exact hK w' h2 h3
theorem wpList_clearL (E : ElemT P t e z size bytes) (hv : ∀ w, (zeroValue e).run P w = .ok z w) (hz1 : ∀ u ∈ z.cells.toList, u.oneCell' = true) {ops : Array Oper} {rest : List Oper} {o : Oper} {a : Act} {Q : Exit → Act → World → Prop} (s : Operand) (hgd : o.guard = none)
    (ho : o.op = .call { callee := .builtin .clear, args := #[s], argTypes := #[t] })
    {g m c' : Nat} (hs : a.eval s = .slice (some ⟨g, n * size, none⟩) m c') (h : rowL w base e size (some ⟨g, 0, none⟩) n c xs) (hm0 : 0 < m) (hroom : n + m ≤ c)
    (hK : ∀ w', rowL w' base e size (some ⟨g, 0, none⟩) n c xs → w.grownBy w' (some g) → wpList P ops Q rest (a.put o.dst (.tuple #[])) w') : wpList P ops Q (o :: rest) a w :=
  wpList_plain hgd fun K hK2 => wp_clearL E hv hz1 s ho hs h hm0 hroom fun w' h2 h3 => hK2 _ _ (hK w' h2 h3)
theorem wp_copyN {o : Oper} {a : Act} {K : Act → World → Prop} {Q : Exit → Act → World → Prop} (size : Nat) (d s : Operand) (dT sT : TypeId)
    (ho : o.op = .call { callee := .builtin .copy, args := #[d, s], argTypes := #[dT, sT] }) (elem : TypeId) (hu : P.underlying dT = some (.slice elem)) (hsz : (P.info? elem).map (·.size) = some size)
    (dp sp : Option Addr) (dLen dCap sLen sCap : Nat) (hd : a.eval d = .slice dp dLen dCap) (hs : a.eval s = .slice sp sLen sCap)
    (g off : Nat) (cur : Array Value) (t : TypeId) (hg : Blk w g t cur) (cs : List Value) (hn : cs.length = Nat.min sLen dLen * size) (hs0 : 0 < size)
    (hpos : 0 < cs.length → dp = some ⟨g, off, none⟩ ∧ ∃ ad, sp = some ad ∧ ∀ j v, cs[j]? = some v → w.cell? (ad.add j) = some v)
    (hfit : off + cs.length ≤ cur.size) (h1 : ∀ v ∈ cs, v.oneCell' = true)
    (hK : ∀ w', Blk w' g t (splice cur.toList off cs).toArray → w.grownBy w' (some g) → K (a.put o.dst (goInt (Nat.min sLen dLen))) w') : o.wp P a w K Q := by
  by_cases h0 : cs.length = 0
  · obtain rfl : cs = [] := List.eq_nil_of_length_eq_zero h0
    have hz : Nat.min sLen dLen = 0 := by
      rcases Nat.eq_zero_or_pos (Nat.min sLen dLen) with e | e
      · exact e
      · have := Nat.mul_pos e hs0
        simp at hn
        omega
    have hrun := run_copy_zero (P := P) w dT sT o.type elem dp sp dLen dCap sLen sCap hu (by cases hq : P.info? elem <;> simp [hq] at hsz ⊢) hz
    unfold Oper.wp
    simp [execOp, ho, resolve, invoke, builtin, hd, hs, hrun, Result.andThen]
    exact hK w (by simpa [splice] using hg) (World.grownBy.refl w _)
  · obtain ⟨rfl, ad, rfl, hsrc⟩ := hpos (by omega)
    have hrun := run_copyN (P := P) w dT sT o.type elem size g off dLen dCap ad sLen sCap cur t cs hu hsz hg hn hsrc hfit h1
    unfold Oper.wp
    simp [execOp, ho, resolve, invoke, builtin, hd, hs, hrun, Result.andThen]
    refine hK _ ?_ ⟨rfl, rfl, rfl, by simp [World.setRow], fun k hk hne => setRow_other w g k _ (fun e => hne (by rw [e]))⟩
    exact setRow_heap w g cur _ t _ hg
end

/-- An operation that alone stands ready and is not wanted. -/
theorem reg_skip {P : Program} {ops : Array Oper} {C : World → Prop} {Q : Act → World → Prop} {f : Nat} {lst : Array Bool} {a : Act} {w : World} (k : Nat) (o : Oper) (hr : (Region.ready .any ops lst == [k]) = true) (ho : ops[k]? = some o) (hg : Region.wanted o (yielded ops a.tmps) = false) (hC : C w)
    (h : anyC P ops C Q f (lst.setIfInBounds k true) (a.put o.dst undef) w) : anyC P ops C Q (f + 1) lst a w := by
  have hr' : Region.ready .any ops lst = [k] := eq_of_beq hr
  refine ⟨fun he => (by rw [hr'] at he; cases he), fun i hi => ?_⟩
  rw [hr'] at hi
  obtain rfl : i = k := by simpa using hi
  unfold okAt
  simp only [ho]
  rw [if_neg (by rw [hg]; simp)]
  exact ⟨hC, h⟩
/-- Room made in the middle, then filled. -/
theorem ins_room {α : Type} (cur X : List α) (a N : Nat) (ha : a ≤ N) (hc : N + X.length ≤ cur.length) :
    (splice (splice cur (a + X.length) ((cur.take N).drop a)) a X).take (N + X.length) = (cur.take N).take a ++ X ++ (cur.take N).drop a := by
  obtain ⟨D, hD⟩ : ∃ D, (cur.take N).drop a = D := ⟨_, rfl⟩
  have hDl : D.length = N - a := by rw [← hD, List.length_drop, List.length_take]; omega
  rw [hD, List.take_take, Nat.min_eq_left ha]
  have e1 : splice cur (a + X.length) D = cur.take (a + X.length) ++ (D ++ cur.drop (a + X.length + D.length)) := rfl
  have hl : (cur.take (a + X.length)).length = a + X.length := by rw [List.length_take]; omega
  have e2 : (splice cur (a + X.length) D).take a = cur.take a := by rw [e1, List.take_append_of_le_length (by omega), List.take_take, Nat.min_eq_left (by omega)]
  have e3 : (splice cur (a + X.length) D).drop (a + X.length) = D ++ cur.drop (a + X.length + D.length) := by rw [e1, List.drop_append_of_le_length (by omega), List.drop_of_length_le (by omega), List.nil_append]
  show ((splice cur (a + X.length) D).take a ++ (X ++ (splice cur (a + X.length) D).drop (a + X.length))).take (N + X.length) = _
  rw [e2, e3, ← List.append_assoc, ← List.append_assoc, List.take_append_of_le_length (by rw [List.length_append, List.length_append, List.length_take]; omega), List.take_of_length_le (by rw [List.length_append, List.length_append, List.length_take]; omega)]
/-- A new row: the first part, what is new, the rest. -/
theorem ins_grow {α : Type} (cur L X : List α) (a N : Nat) (ha : a ≤ N) (hL : L.length = N) (hc : N + X.length ≤ cur.length) (hp : cur.take a = L.take a) :
    (splice (splice cur a X) (a + X.length) (L.drop a)).take (N + X.length) = L.take a ++ X ++ L.drop a := by
  have hDl : (L.drop a).length = N - a := by rw [List.length_drop, hL]
  have hl : (cur.take a).length = a := by rw [List.length_take]; omega
  have e2 : (splice cur a X).take (a + X.length) = cur.take a ++ X := by
    unfold splice
    rw [← List.append_assoc, List.take_append_of_le_length (by rw [List.length_append]; omega), List.take_of_length_le (by rw [List.length_append]; omega)]
  show ((splice cur a X).take (a + X.length) ++ (L.drop a ++ (splice cur a X).drop (a + X.length + (L.drop a).length))).take (N + X.length) = _
  rw [e2, hp, ← List.append_assoc, List.take_append_of_le_length (by rw [List.length_append, List.length_append, List.length_take]; omega), List.take_of_length_le (by rw [List.length_append, List.length_append, List.length_take]; omega)]
end Go.Proofs.Ytgacpkbpbckgiaa
