/-
  Exchange: walks over add and Begin. Condition: the state is one that the calls make.
-/
import Derived.Test.YtgacpkbpbckgiaaWb
namespace Go.Proofs.Ytgacpkbpbckgiaa
open Go.RowKit
set_option linter.unusedVariables false

theorem ptrE : ElemT Try.prog 65 69 (.pointer none) 1 8 := ⟨Try.underlying65, by kernel_rfl, rfl, by decide⟩
theorem ptr_one (g : Nat) : ∀ u ∈ [Value.pointer (some ⟨g, 0, none⟩)], u.oneCell' = true := by
  intro u hu
  simp at hu
  subst hu
  rfl
theorem blk4_s1 {w : World} {g : Nat} {t : TypeId} {a b c d : Value} (h : Blk w g t #[a, b, c, d]) (u : Value) : Blk (w.setCell ⟨g, 1, none⟩ u) g t #[a, u, c, d] := by simpa using h.set_ 1 u
theorem blk4_s3 {w : World} {g : Nat} {t : TypeId} {a b c d : Value} (h : Blk w g t #[a, b, c, d]) (u : Value) : Blk (w.setCell ⟨g, 3, none⟩ u) g t #[a, b, c, u] := by simpa using h.set_ 3 u
/-- The types that the program's calls turn. -/
abbrev PT : List TypeId := [67, 69, 76]
theorem PRep.setNow {w : World} {B p : Nat} {s : XS} (h : PRep w B p s) (a : Int) : PRep (w.setCell ⟨p, 1, none⟩ (.int .i64 a)) B p { s with now := a } := by
  obtain ⟨h1, mb, zs, A, c, h2, h3, h4, h5, h6, h7⟩ := h
  exact ⟨h1, mb, zs, A, c, blk4_s1 h2 _, h3, h4.set_ h2 1 _, h5, h6.keep (fun g cs b => b.far (by exact Blk.ne_ b h2 (by decide)) _), h7.far h2 (by decide) 1 _⟩
theorem PRep.blk {w : World} {B p : Nat} {s : XS} (h : PRep w B p s) : B ≤ p ∧ ∃ m v, Blk w p 67 #[.int .i64 s.tmo, .int .i64 s.now, m, v] := by
  obtain ⟨h1, mb, zs, A, c, h2, _⟩ := h
  exact ⟨h1, _, _, h2⟩
theorem lookZ_snoc {zs : List (Nat × Im)} {z : Nat × Im} (h : fnd z.2.key (zs.map Prod.snd) = none) : (fun k => if k = z.2.key.data.toList then some (ptrZ z) else lookZ zs k) = lookZ (zs ++ [z]) := by
  funext k
  unfold lookZ
  rw [List.find?_append]
  by_cases e : k = z.2.key.data.toList
  · subst e
    rw [if_pos rfl]
    have hn : (zs.find? fun x => decide (x.2.key.data.toList = z.2.key.data.toList)) = none := by
      have := find_zs (key := z.2.key) (zs := zs)
      rw [h] at this
      cases hh : zs.find? fun x => decide (x.2.key.data.toList = z.2.key.data.toList) with
      | none => rfl
      | some y => rw [hh] at this; cases this
    rw [hn]
    simp
  · rw [if_neg e]
    have : ¬ z.2.key.data.toList = k := fun h => e h.symm
    simp [this]
theorem pnd_snoc {zs : List (Nat × Im)} {z : Nat × Im} (h : pendB z.2 = true) : pnd (zs ++ [z]) = pnd zs ++ [z] := by
  unfold pnd
  rw [List.filter_append, List.filter_cons_of_pos (p := fun z : Nat × Im => pendB z.2) h]
  rfl

def AddRet (B p : Nat) (s : XS) (key txt : ByteArray) (w : World) (e : Ending) (w' : World) : Prop :=
  e = .returned (.tuple #[]) ∧ PRep w' B p ⟨s.tmo, s.now, s.its ++ [⟨key, txt, ⟨#[]⟩, s.now, 0⟩]⟩ ∧ Turn B PT true w w'
set_option maxRecDepth 100000 in
set_option maxHeartbeats 3200000 in
theorem add_any (B p : Nat) (s : XS) (o : s.Ok) (hl : s.its.length ≤ 100000) (key txt : ByteArray) (hk : key.size ≤ 9223372036854775807) (hf : fnd key s.its = none) (w : World) (hBw : B ≤ w.heap.size) (r : PRep w B p s) :
    Calls Try.prog 30 #[.pointer (some ⟨p, 0, none⟩), .string key, .string txt] w (AddRet B p s key txt w) := by
  obtain ⟨h1, mb, zs, A, c, B0, h3, h4, h5, h6, h7⟩ := r
  have c2 : w.cell? ⟨p, 2, none⟩ = some (.map (some mb)) := B0.c 2 _ rfl
  obtain ⟨hnc, hcm⟩ := h7.len
  have hzl : zs.length = s.its.length := by rw [← h5, List.length_map]
  have hl2 : (pnd zs).length ≤ 100000 := by have := pnd_len zs; omega
  have hw1 : IntKind.i64.wrap (s.now + s.tmo) = s.now + s.tmo := by have := o.t1; have := o.t2; have := o.n1; have := o.n2; exact IntWalk.i64_in _ (by omega)
  have H4 := Lib.hid h4
  have H5 := Lib.hid h5
  have H6 := Lib.hid h6
  have H7 := Lib.hid h7
  have HB0 := Lib.hid B0
  have HF := Lib.hid hf
  have hq := eqlSome mb
  have e0 := fun n : Cls (UpC w) => (B0.call n.2).c 0 (.int .i64 s.tmo) rfl
  have e1 := fun n : Cls (UpC w) => (B0.call n.2).c 1 (.int .i64 s.now) rfl
  clear h4 h5 h6 h7 B0 hf
  go_enter Try.func30, Try.ntmps30
  go_wp2_with fail
  rename_i K0 hKK
  refine wp_region_reg (UpC w) 14 rfl (by kernel_rfl) ?_
  have T : UpC w w.drew := (Below.refl _ _).drew
  haveI : Nonempty (Cls (UpC w)) := ⟨⟨_, T⟩⟩
  refine reg_seg (f := 2) (by kernel_rfl) [0, 1, 2, 3, 4, 5, 6, 7, 8, 9, 10, 11] _ _ _ T (by kernel_rfl) ?_
  simp only [pickL, List.filterMap_cons, List.filterMap_nil, List.getElem?_toArray, List.getElem?_cons_zero, List.getElem?_cons_succ]
  show wpQuiet _ _ _ _ [_, _, _, _, _, _, _, _, _, _, _, _] _
  repeat (go_big_quiet_step (fail))
  refine wpQuiet_nil ?_
  clear e0 e1 c2
  refine reg_call 12 _ (by kernel_rfl) rfl rfl ?_
  go_simp
  have T2 : UpC w (w.alloc (.cells #[.string key, .string txt, .string ⟨#[]⟩, .int .i64 (s.now + s.tmo), .int .i64 0] 76)).drew := ((Below.refl _ _).alloc (Nat.le_refl _) _).drew
  refine ⟨T2, ?_⟩
  have T := T2
  refine reg_seg (f := 0) (by kernel_rfl) [13] _ _ _ T (by kernel_rfl) ?_
  simp only [pickL, List.filterMap_cons, List.filterMap_nil, List.getElem?_toArray, List.getElem?_cons_zero, List.getElem?_cons_succ]
  show wpQuiet _ _ _ _ [_] _
  repeat (go_big_quiet_step (fail))
  refine wpQuiet_nil ?_
  refine reg_end (by kernel_rfl) ?_
  refine hKK _ _ ?_
  have BN : Blk (w.alloc (.cells #[.string key, .string txt, .string ⟨#[]⟩, .int .i64 (s.now + s.tmo), .int .i64 0] 76)).drew w.heap.size 76 (imC s.tmo ⟨key, txt, ⟨#[]⟩, s.now, 0⟩) := Blk.new w 76 _
  obtain ⟨q, hq0⟩ : ∃ q, w.heap.size = q := ⟨_, rfl⟩
  have hqB : B ≤ q := by omega
  have HQn : Hid (∀ z ∈ zs, z.1 ≠ q) := Lib.hid (fun z hz e => by
    have := (H6.out.2 z hz).2.lt
    omega)
  have HBw := Lib.hid hBw
  rw [hq0] at BN ⊢
  clear hq0 T
  generalize hw2 : (w.alloc (.cells #[.string key, .string txt, .string ⟨#[]⟩, .int .i64 (s.now + s.tmo), .int .i64 0] 76)).drew = w2 at BN T2 ⊢
  clear hw2
  have X2 := HB0.out.call T2
  have M2 := Lib.hid (H4.out.call T2)
  have Z2 := Lib.hid (H6.out.keep (fun _ _ b => b.call T2))
  have R2 := Lib.hid (H7.out.call T2)
  have U2 := Lib.hid (Turn.of_below (T := PT) (m := true) T2 HBw.out)
  have HBN := Lib.hid BN
  have c2 : w2.cell? ⟨p, 2, none⟩ = some (.map (some mb)) := X2.c 2 _ rfl
  clear T2 BN hBw
  go_wp2_with (first
    | (at_mapUpdate
       have hm2 := M2
       go_must (refine wpList_putH hm2.out Try.underlying9 Try.underlying64 (by unfold maxLen; omega) rfl _ _ _ rfl (s := key) hk (.pointer (some ⟨q, 0, none⟩)) rfl rfl rfl ?_)
       intro w3 hm3 hg3
       have X3 := X2.mapped hm2.out hg3
       have R3 := Lib.hid (R2.out.mapped hm2.out hg3)
       have Z3 := Lib.hid (Z2.out.keep (fun _ _ b => b.mapped hm2.out hg3))
       have HBN3 := Lib.hid (HBN.out.mapped hm2.out hg3)
       have U3 := Lib.hid (U2.out.mapped hm2.out hg3 h3 (Nat.le_trans HBw.out U2.out.size))
       have M3 := Lib.hid hm3
       have d3 : w3.cell? ⟨p, 3, none⟩ = some (.slice A (pnd zs).length c) := X3.c 3 _ rfl
       have z3 := Nat.le_trans HBw.out U3.out.size
       clear hm3 hg3 hm2 M2 R2 Z2 HBN U2 c2)
    | (at_builtin
       go_must (refine wpList_appL ptrE _ _ rfl rfl (m := 1) (c' := 1) (ys := [.pointer (some ⟨q, 0, none⟩)]) rfl rfl (R3.out.alloc (.cells #[.pointer (some ⟨q, 0, none⟩)] 69)) (RDn.of_box (Blk.new w3 69 #[.pointer (some ⟨q, 0, none⟩)])) (ptr_one q) (by unfold maxLen; omega) (by omega) (by simp; omega) ?_)
       intro A4 c4 w4 hr4 hg4 hor
       have RA := R3.out.alloc (.cells #[.pointer (some ⟨q, 0, none⟩)] 69)
       have X4 := (X3.alloc (.cells #[.pointer (some ⟨q, 0, none⟩)] 69)).grownL RA (by decide) hg4
       have M4 := Lib.hid ((M3.out.alloc (.cells #[.pointer (some ⟨q, 0, none⟩)] 69)).grownL RA hg4)
       have Z4 := Lib.hid (Z3.out.keep (fun _ _ b => (b.alloc (.cells #[.pointer (some ⟨q, 0, none⟩)] 69)).grownL RA (by decide) hg4))
       have HBN4 := Lib.hid ((HBN3.out.alloc (.cells #[.pointer (some ⟨q, 0, none⟩)] 69)).grownL RA (by decide) hg4)
       have U4 := Lib.hid ((U3.out.alloc (.cells #[.pointer (some ⟨q, 0, none⟩)] 69) HBw.out).grownL RA hg4 rfl HBw.out)
       have R4 := Lib.hid hr4
       have l4 := X4.lt
       have f4 := X4.frozen
       have d4 : w4.cell? ⟨p, 3, none⟩ = some (.slice A (pnd zs).length c) := X4.c 3 _ rfl
       clear hr4 hg4 hor RA d3))
  go_end0
  have hz : pendB (⟨key, txt, ⟨#[]⟩, s.now, 0⟩ : Im) = true := rfl
  have hpn : pnd (zs ++ [(q, ⟨key, txt, ⟨#[]⟩, s.now, 0⟩)]) = pnd zs ++ [(q, ⟨key, txt, ⟨#[]⟩, s.now, 0⟩)] := pnd_snoc hz
  refine ⟨rfl, ⟨h1, mb, zs ++ [(q, ⟨key, txt, ⟨#[]⟩, s.now, 0⟩)], A4, c4, ?_, h3, ?_, ?_, ?_, ?_⟩, U4.out.setB X4 rfl h1 3 _⟩
  · rw [hpn, List.length_append]
    exact blk4_s3 X4 _
  · have hm := M4.out.set_ X4 3 (.slice A4 ((pnd zs).length + 1) c4)
    have e := lookZ_snoc (zs := zs) (z := (q, ⟨key, txt, ⟨#[]⟩, s.now, 0⟩)) (by rw [H5.out]; exact HF.out)
    rw [List.length_append, ← e]
    exact hm
  · rw [List.map_append, H5.out]
    rfl
  · refine ⟨?_, fun z hz => ?_⟩
    · rw [List.map_append]
      refine List.nodup_append.2 ⟨Z4.out.1, by simp, fun x hx y hy => ?_⟩
      simp at hy
      subst hy
      obtain ⟨z, hz, rfl⟩ := List.mem_map.1 hx
      exact HQn.out z hz
    · rcases List.mem_append.1 hz with hz | hz
      · exact ⟨(Z4.out.2 z hz).1, (Z4.out.2 z hz).2.far (by exact Blk.ne_ (Z4.out.2 z hz).2 X4 (by decide)) _⟩
      · simp at hz
        subst hz
        exact ⟨hqB, HBN4.out.far (by exact Blk.ne_ HBN4.out X4 (by decide)) _⟩
  · rw [hpn, List.length_append, List.map_append]
    exact R4.out.far X4 (by decide) 3 _
end Go.Proofs.Ytgacpkbpbckgiaa
