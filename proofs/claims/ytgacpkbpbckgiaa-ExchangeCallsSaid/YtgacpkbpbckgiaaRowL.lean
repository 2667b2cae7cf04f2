/-
  A row of the call's own whose slice may have been cut short of its array ('s[:i:i]'). No condition.
-/
import Derived.Test.YtgacpkbpbckgiaaCat
namespace Go.Proofs.Ytgacpkbpbckgiaa
open Go Go.RowKit

def rowL (w : World) (base : Nat) (e : TypeId) (size : Nat) (A : Option Addr) (n c : Nat) (xs : List Value) : Prop :=
  xs.length = n * size ∧ ((A = none ∧ n = 0 ∧ c = 0) ∨
   ∃ g cur, A = some ⟨g, 0, none⟩ ∧ base ≤ g ∧ Blk w g e cur ∧ n ≤ c ∧ c ≤ maxLen ∧ c * size ≤ cur.size ∧ cur.toList.take (n * size) = xs)
/-- The block of a row. -/
def blkOf : Option Addr → Option Nat
  | some a => some a.block
  | none => none

section
variable {P : Program} {w w' : World} {base : Nat} {e : TypeId} {size n c : Nat} {A : Option Addr} {xs : List Value}
theorem rowL.nil (w : World) (base : Nat) (e : TypeId) (size : Nat) : rowL w base e size none 0 0 [] := ⟨by simp, .inl ⟨rfl, rfl, rfl⟩⟩
theorem rowL.of_own (h : w.ownsRow base e size (.slice A n c) n xs) : rowL w base e size A n c xs := by
  refine ⟨h.1, ?_⟩
  rcases h.2 with ⟨hv, h0⟩ | ⟨g, cap, cur, hv, hb, hh, hnc, hm, hcs, hx⟩
  · injection hv with h1 h2 h3
    exact .inl ⟨h1, h2, h3⟩
  · injection hv with h1 h2 h3
    subst h1 h3
    exact .inr ⟨g, cur, rfl, hb, hh, hnc, hm, by omega, hx⟩
theorem rowL.len (h : rowL w base e size A n c xs) : n ≤ c ∧ c ≤ 9223372036854775807 := by
  rcases h.2 with ⟨_, h1, h2⟩ | ⟨g, cur, _, _, _, h1, h2, _⟩
  · omega
  · unfold maxLen at h2; omega
theorem rowL.mono {base' : Nat} (h : rowL w base e size A n c xs) (hb : base' ≤ base) : rowL w base' e size A n c xs := by
  refine ⟨h.1, ?_⟩
  rcases h.2 with h2 | ⟨g, cur, hv, hg, r⟩
  · exact .inl h2
  · exact .inr ⟨g, cur, hv, Nat.le_trans hb hg, r⟩
theorem rowL.keep (h : rowL w base e size A n c xs) (hk : ∀ g cur, A = some ⟨g, 0, none⟩ → Blk w g e cur → Blk w' g e cur) : rowL w' base e size A n c xs := by
  refine ⟨h.1, ?_⟩
  rcases h.2 with h2 | ⟨g, cur, hv, hg, hb, r⟩
  · exact .inl h2
  · exact .inr ⟨g, cur, hv, hg, hk g cur hv hb, r⟩
theorem rowL.call (h : rowL w base e size A n c xs) (hb : Below w.heap.size w w') : rowL w' base e size A n c xs := h.keep fun _ _ _ b => b.call hb
theorem rowL.drewN (h : rowL w base e size A n c xs) (k : Nat) : rowL (w.drewN k) base e size A n c xs := h
theorem rowL.alloc (h : rowL w base e size A n c xs) (o : Obj) : rowL (w.alloc o) base e size A n c xs := h.keep fun _ _ _ b => b.alloc o
theorem rowL.turn {B : Nat} {T : List TypeId} {m : Bool} (h : rowL w base e size A n c xs) (k : Turn B T m w w') (he : T.contains e = false) : rowL w' base e size A n c xs := h.keep fun _ _ _ b => b.turn k he
theorem rowL.blk_ne (h : rowL w base e size A n c xs) {p : Nat} {t : TypeId} {cs : Array Value} (hp : Blk w p t cs) (hne : e ≠ t) : blkOf A ≠ some p := by
  rcases h.2 with ⟨rfl, _⟩ | ⟨g, cur, rfl, _, hb, _⟩
  · simp [blkOf]
  · intro h
    obtain rfl : g = p := by simpa [blkOf] using h
    exact Blk.ne_ hb hp hne rfl
theorem rowL.far (h : rowL w base e size A n c xs) {p : Nat} {t : TypeId} {cs : Array Value} (hp : Blk w p t cs) (hne : e ≠ t) (i : Nat) (u : Value) : rowL (w.setCell ⟨p, i, none⟩ u) base e size A n c xs :=
  h.keep fun _ _ _ b => b.far (by exact Blk.ne_ b hp hne) u
/-- Beside a row of another type that has grown. -/
theorem rowL.grown {e' : TypeId} {A' : Option Addr} {base' size' n' c' : Nat} {xs' : List Value} (h : rowL w base e size A n c xs) (h' : rowL w base' e' size' A' n' c' xs') (hne : e ≠ e') (hg : w.grownBy w' (blkOf A')) : rowL w' base e size A n c xs :=
  h.keep fun _ _ _ b => b.grown hg (Ne.symm (h'.blk_ne b (Ne.symm hne)))
theorem Blk.grownL {p : Nat} {t : TypeId} {cs : Array Value} (hp : Blk w p t cs) (h : rowL w base e size A n c xs) (hne : e ≠ t) (hg : w.grownBy w' (blkOf A)) : Blk w' p t cs := hp.grown hg (Ne.symm (h.blk_ne hp hne))
theorem rowL.cells (h : rowL w base e size A n c xs) (hn : 0 < n) : ∃ g, A = some ⟨g, 0, none⟩ ∧ base ≤ g ∧ g < w.heap.size ∧ (∀ j u, xs[j]? = some u → w.cell? ⟨g, j, none⟩ = some u) ∧ ∀ j, w.frozen? ⟨g, j, none⟩ = false := by
  rcases h.2 with ⟨_, h0, _⟩ | ⟨g, cur, rfl, hb, hh, hnc, hm, hcs, hx⟩
  · omega
  · refine ⟨g, rfl, hb, hh.lt, fun j u hu => ?_, hh.frozen⟩
    rw [← hx, List.getElem?_take] at hu
    split at hu
    · exact hh.c j u (by simpa using hu)
    · cases hu
theorem rowL.rd (h : rowL w base e size A n c xs) : RDn w A size n xs := by
  refine ⟨h.1, fun hA => ?_, fun ad hA j u hu => ?_⟩
  · rcases h.2 with ⟨_, h0, _⟩ | ⟨g, cur, hv, _⟩
    · exact h0
    · rw [hA] at hv; cases hv
  · subst hA
    by_cases hn : 0 < n
    · obtain ⟨g, e1, _, _, hc, _⟩ := h.cells hn
      injection e1 with e1
      subst e1
      rw [Addr.add_lit, Nat.zero_add]
      exact hc j u hu
    · have : xs = [] := List.eq_nil_of_length_eq_zero (by have := h.1; have : n = 0 := by omega
                                                          subst this; omega)
      subst this
      simp at hu
/-- 's[:k:k]'. -/
theorem rowL.cut (h : rowL w base e size A n c xs) {k : Nat} (hk : k ≤ n) : rowL w base e size A k (if A = none then 0 else k) (xs.take (k * size)) := by
  have hks : k * size ≤ n * size := Nat.mul_le_mul_right _ hk
  refine ⟨by rw [List.length_take, h.1]; omega, ?_⟩
  rcases h.2 with ⟨rfl, h0, _⟩ | ⟨g, cur, rfl, hb, hh, hnc, hm, hcs, hx⟩
  · exact .inl ⟨rfl, by omega, rfl⟩
  · have : k * size ≤ c * size := Nat.mul_le_mul_right _ (by omega)
    exact .inr ⟨g, cur, rfl, hb, hh, by simp, by simp; omega, by simp; omega, by rw [← hx, List.take_take, Nat.min_eq_left hks]⟩
/-- The end of a row, from element k on. -/
theorem rowL.drop {g : Nat} (h : rowL w base e size (some ⟨g, 0, none⟩) n c xs) {k : Nat} {A' : Option Addr} (hA : k < n → A' = some ⟨g, k * size, none⟩) (hn : A' = none → n ≤ k) : RDn w A' size (n - k) (xs.drop (k * size)) := by
  refine ⟨by rw [List.length_drop, h.1, Nat.sub_mul], fun e => by have := hn e; omega, fun ad ha j u hu => ?_⟩
  by_cases hk : k < n
  · rw [hA hk] at ha
    injection ha with ha
    subst ha
    rw [Addr.add_lit]
    rw [List.getElem?_drop] at hu
    obtain ⟨g', e1, _, _, hc, _⟩ := h.cells (by omega)
    injection e1 with e1
    injection e1 with e1
    subst e1
    exact hc _ u hu
  · have : n * size ≤ k * size := Nat.mul_le_mul_right _ (by omega)
    rw [List.drop_of_length_le (by rw [h.1]; exact this)] at hu
    simp at hu
/-- A store into an element. -/
theorem rowL.set_ {g : Nat} (h : rowL w base e size (some ⟨g, 0, none⟩) n c xs) (j : Nat) (u : Value) : rowL (w.setCell ⟨g, j, none⟩ u) base e size (some ⟨g, 0, none⟩) n c (xs.set j u) := by
  refine ⟨by rw [List.length_set]; exact h.1, .inr ?_⟩
  rcases h.2 with ⟨hv, _⟩ | ⟨g', cur, hv, hb, hh, hnc, hm, hcs, hx⟩
  · cases hv
  · injection hv with h1
    injection h1 with h1
    subst h1
    refine ⟨g, _, rfl, hb, hh.set_ j u, hnc, hm, by simpa using hcs, ?_⟩
    rw [Array.toList_setIfInBounds, List.take_set, hx]

variable {t : TypeId} {z : Value} {bytes : Nat}
theorem run_appL (E : ElemT P t e z size bytes) (ty : TypeId) {m c' : Nat} {ys : List Value} {A' : Option Addr} (h : rowL w base e size A n c xs) (hsrc : Proofs.Ytgacpkbpbckgiaa.RDn w A' size m ys)
    (h1 : ∀ u ∈ ys, u.oneCell' = true) (h63 : n + m ≤ maxLen) (hbytes : (n + m) * bytes ≤ 140737488355328) (hbase : base ≤ w.heap.size) :
    ∃ A2 c2 w', (Builtin.append_ #[t, t] ty #[.slice A n c, .slice A' m c']).run P w = .ok (.slice A2 (n + m) c2) w' ∧ rowL w' base e size A2 (n + m) c2 (xs ++ ys) ∧ w.grownBy w' (blkOf A) ∧ (A2 = A ∨ A2 = some ⟨w.heap.size, 0, none⟩) := by
  obtain ⟨i, hi, hz0, hz1, hz2⟩ := info_parts E.hi
  obtain ⟨hl, hnone, hcell⟩ := hsrc
  rcases h.2 with ⟨rfl, rfl, rfl⟩ | ⟨g, cur, rfl, hb, hh, hnc, hm, hcs, hx⟩
  · have hx0 : xs = [] := List.eq_nil_of_length_eq_zero (by have := h.1; omega)
    subst hx0
    obtain ⟨v', w', hrun, h2, h3, h4⟩ := run_concatR (P := P) (c := c') E ty (World.ownsRow_nil w base e size) ⟨hl, hnone, hcell⟩ h1 h63 hbytes hbase
    obtain ⟨A2, c2, rfl⟩ := own_slice h2
    refine ⟨A2, c2, w', hrun, rowL.of_own h2, h3, ?_⟩
    rcases h2.2 with ⟨hv, _⟩ | ⟨g, cap, cur, hv, _⟩
    · injection hv with e1 _ _; exact .inl e1
    · injection hv with e1 _ _
      subst e1
      rcases h4 with h4 | h4
      · simp [Value.ownBlock] at h4
      · right
        simp [Value.ownBlock] at h4
        rw [h4]
  · by_cases hroom : n + m ≤ c
    · cases A' with
      | none =>
        obtain rfl := hnone rfl
        have hy : ys = [] := List.eq_nil_of_length_eq_zero (by omega)
        subst hy
        refine ⟨_, c, w, ?_, by simpa using h, World.grownBy.refl w _, .inl rfl⟩
        simp [Builtin.append_, run_underlying E.ht, sizeOf, typeInfo, hi, Builtin.lenOf, Builtin.firstCells, hnc, storeCells]
      | some ad =>
        have hmul : (n + m) * size ≤ c * size := Nat.mul_le_mul_right _ hroom
        have e1 : (n + m) * size = n * size + m * size := Nat.add_mul _ _ _
        have hr := run_append_room (P := P) w t ty e i E.ht hi g n c cur hh ad m c' ys (by rw [hz1]; exact hl) (hcell ad rfl) h1 hroom (by rw [hz1]; omega)
        rw [hz1] at hr
        refine ⟨_, c, _, hr, ⟨by rw [List.length_append, h.1, hl, Nat.add_mul], .inr ⟨g, _, rfl, hb, setRow_heap w g cur _ e _ hh, hroom, hm, ?_, ?_⟩⟩, ⟨rfl, rfl, rfl, by simp [World.setRow], fun k _ hk => setRow_other w g k _ (fun e => hk (by simp [blkOf, e]))⟩, .inl rfl⟩
        · simp only [List.size_toArray, List.length_append, List.length_take, List.length_drop, Array.length_toList]
          omega
        · rw [hx, List.take_append_of_le_length (by rw [List.length_append, h.1, hl]; omega), List.take_of_length_le (by rw [List.length_append, h.1, hl]; omega)]
    · cases A' with
      | none => have := hnone rfl; omega
      | some ad =>
        have holds : ∀ j u, xs[j]? = some u → w.cell? ((⟨g, 0, none⟩ : Addr).add j) = some u := h.rd.2.2 _ rfl
        have hlen : (xs ++ ys).length = (n + m) * size := by rw [List.length_append, h.1, hl, Nat.add_mul]
        have hb2 : (n + m) * i.bytes ≤ 140737488355328 := by rw [hz2]; exact hbytes
        have hr := run_append_grow (P := P) w t ty e i z E.ht hi hz0 ⟨g, 0, none⟩ n c xs (by rw [hz1]; exact h.1) holds ad m c' ys (by rw [hz1]; exact hl) (hcell ad rfl) (by omega) (by simp only [maxLen] at h63; omega) (growslice_fits (by omega) hb2)
        have hge := grownCap_ge w (n + m) c e
        have hcm : grownCap w (n + m) c e ≤ maxLen := grownCap_le_maxLen w (n + m) c e h63
        refine ⟨_, _, _, hr, ⟨hlen, .inr ⟨w.heap.size, _, rfl, hbase, heap_alloc_new w.drew _, hge, hcm, ?_, ?_⟩⟩, ⟨rfl, rfl, rfl, by simp, fun k hk _ => Below.heap_alloc w.drew _ k hk⟩, .inr rfl⟩
        · simp only [Array.size_append, List.size_toArray, size_zeroCells, E.hz, h.1, hl, ← Nat.add_mul]
          have : n + m + (grownCap w (n + m) c e - (n + m)) = grownCap w (n + m) c e := by omega
          rw [this]
          exact Nat.le_refl _
        · simp only [Array.toList_append]
          rw [← hlen]
          exact List.take_left
theorem wpList_appL (E : ElemT P t e z size bytes) {ops : Array Oper} {rest : List Oper} {o : Oper} {a : Act} {Q : Exit → Act → World → Prop} (s x : Operand) (hgd : o.guard = none)
    (ho : o.op = .call { callee := .builtin .append, args := #[s, x], argTypes := #[t, t] })
    {m c' : Nat} {ys : List Value} {A' : Option Addr} (hs : a.eval s = .slice A n c) (hx : a.eval x = .slice A' m c') (h : rowL w base e size A n c xs) (hsrc : Proofs.Ytgacpkbpbckgiaa.RDn w A' size m ys)
    (h1 : ∀ u ∈ ys, u.oneCell' = true) (h63 : n + m ≤ maxLen) (hbytes : (n + m) * bytes ≤ 140737488355328) (hbase : base ≤ w.heap.size)
    (hK : ∀ A2 c2 w', rowL w' base e size A2 (n + m) c2 (xs ++ ys) → w.grownBy w' (blkOf A) → (A2 = A ∨ A2 = some ⟨w.heap.size, 0, none⟩) → wpList P ops Q rest (a.put o.dst (.slice A2 (n + m) c2)) w') : wpList P ops Q (o :: rest) a w := by
  refine wpList_plain hgd fun K hK2 => ?_
  obtain ⟨A2, c2, w', hrun, h2, h3, h4⟩ := run_appL (c' := c') E o.type h hsrc h1 h63 hbytes hbase
  unfold Oper.wp execOp
  simp only [ho, resolve, invoke, builtin, Sem.run_bind, Sem.run_pure, Result.andThen_ok, List.map_toArray, List.map_cons, List.map_nil, hs, hx, hrun]
  exact hK2 _ _ (hK A2 c2 w' h2 h3 h4)
/-- One element, boxed in a block of its own. -/
theorem RDn.of_box {gb : Nat} {cs : Array Value} (hB : Blk w gb e cs) : Proofs.Ytgacpkbpbckgiaa.RDn w (some ⟨gb, 0, none⟩) cs.size 1 cs.toList :=
  ⟨by simp, fun h => (by cases h), fun ad h j u hu => by
    injection h with h
    subst h
    rw [Addr.add_lit, Nat.zero_add]
    exact hB.c j u (by simpa using hu)⟩
end
end Go.Proofs.Ytgacpkbpbckgiaa
