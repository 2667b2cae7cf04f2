/-
  Exchange: walk over Reply. Condition: the state is one that the calls make.
-/
import Derived.Test.YtgacpkbpbckgiaaWg
namespace Go.Proofs.Ytgacpkbpbckgiaa
open Go.RowKit
set_option linter.unusedVariables false

theorem find_pair {key : ByteArray} {zs : List (Nat × Im)} {x : Im} (hf : fnd key (zs.map Prod.snd) = some x) : ∃ g, (g, x) ∈ zs ∧ (zs.find? fun z => decide (z.2.key.data.toList = key.data.toList)) = some (g, x) := by
  rw [← find_zs] at hf
  cases e : zs.find? fun z => decide (z.2.key.data.toList = key.data.toList) with
  | none => rw [e] at hf; cases hf
  | some z =>
    rw [e] at hf
    injection hf with hf
    subst hf
    exact ⟨z.1, List.mem_of_find?_eq_some e, rfl⟩
theorem look_at {w : World} {mb n : Nat} {zs : List (Nat × Im)} (h : HM Try.prog 9 w mb n (lookZ zs)) {s : ByteArray} (hs : s.size ≤ maxLen) {g : Nat} {x : Im} (hf : (zs.find? fun z => decide (z.2.key.data.toList = s.data.toList)) = some (g, x)) :
    (Instr.lookup 64 (.map (some mb)) (.string s) true).run Try.prog w = .ok (.tuple #[.pointer (some ⟨g, 0, none⟩), .bool true]) w := by
  rw [look_run h hs, hf]
  rfl
theorem uniqI : ∀ {l : List Im}, (l.map Im.key).Nodup → ∀ {y x : Im}, y ∈ l → x ∈ l → y.key = x.key → y = x
  | [], _, _, _, hy, _, _ => by cases hy
  | b :: l, hn, y, x, hy, hx, e => by
    rw [List.map_cons, List.nodup_cons] at hn
    rcases List.mem_cons.1 hy with e1 | h1
    · rcases List.mem_cons.1 hx with e2 | h2
      · rw [e1, e2]
      · exact absurd (List.mem_map.2 ⟨_, h2, by rw [← e1, e]⟩) hn.1
    · rcases List.mem_cons.1 hx with e2 | h2
      · exact absurd (List.mem_map.2 ⟨_, h1, by rw [← e2, e]⟩) hn.1
      · exact uniqI hn.2 h1 h2 e
theorem repS_same {s : XS} (o : s.Ok) {a : Int} {key rep : ByteArray} {x : Im} (hf : fnd key s.its = some x) (h : okT s a) (h2 : ¬ 4000 < rep.size) (h3 : ¬ x.st = 0) : repS s a key rep = { s with now := a } := by
  unfold repS
  rw [hf]
  simp only [not_not_intro h, if_false, h2]
  have : upd key (repU s.tmo a rep) s.its = s.its := by
    unfold upd
    conv => rhs; rw [← List.map_id s.its]
    refine List.map_congr_left fun y hy => ?_
    split
    · rename_i e
      obtain ⟨hx, hxk⟩ := fnd_some hf
      have hyx : y = x := uniqI o.keys hy hx (by rw [e, hxk])
      rw [hyx]
      unfold repU
      rw [if_neg h3]
      rfl
    · rfl
  rw [this]

section
variable (B p : Nat) (s : XS) (a : Int) (key rep : ByteArray) (w : World)
set_option maxRecDepth 100000 in
set_option maxHeartbeats 3200000 in
theorem reply_none (hk : key.size ≤ 9223372036854775807) (hf : fnd key s.its = none) (r : PRep w B p s) : Calls Try.prog 15 #[.pointer (some ⟨p, 0, none⟩), .int .i64 a, .string key, .string rep] w fun e w' => e = .returned (.tuple #[.int .i64 0, .int .i64 6]) ∧ Below w.heap.size w w' := by
  have b1 : Below w.heap.size w (w.alloc (.cells #[.string key] 9)) := (Below.refl _ _).alloc (Nat.le_refl _) _
  have HX1 := Lib.hid b1
  obtain ⟨h1, mb, zs, A, c, B0, h3, h4, h5, h6, h7⟩ := r
  have M1 := h4.call b1
  have B1 := B0.call b1
  have e0 := fun n : Cls (UpC (w.alloc (.cells #[.string key] 9))) => (B1.call n.2).c 2 (.map (some mb)) rfl
  have e1 := fun n : Cls (UpC (w.alloc (.cells #[.string key] 9))) => ((Blk.new w 9 #[.string key]).call n.2).c 0 (.string key) rfl
  have e2 := fun n : Cls (UpC (w.alloc (.cells #[.string key] 9))) => look_none (M1.call n.2) hk (by rw [h5]; exact hf)
  clear h3 h4 h5 h6 h7 B0 M1 B1 hf
  go_enter Try.func15, Try.ntmps15
  go_wp2_with fail
  rename_i K0 hKK
  generalize w.alloc (.cells #[.string key] 9) = W1 at b1 HX1 e0 e1 e2 ⊢
  refine wp_region_reg (UpC W1) 11 rfl (by kernel_rfl) ?_
  have T : UpC W1 W1.drew := (Below.refl _ _).drew
  haveI : Nonempty (Cls (UpC W1)) := ⟨⟨_, T⟩⟩
  refine reg_seg (f := 0) (by kernel_rfl) [0, 1, 2, 3, 4, 5, 6, 7, 8, 9, 10] _ _ _ T (by kernel_rfl) ?_
  simp only [pickL, List.filterMap_cons, List.filterMap_nil, List.getElem?_toArray, List.getElem?_cons_zero, List.getElem?_cons_succ]
  show wpQuiet _ _ _ _ [_, _, _, _, _, _, _, _, _, _, _] _
  repeat (go_big_quiet_step (fail))
  refine wpQuiet_nil ?_
  refine reg_end (by kernel_rfl) ?_
  refine hKK _ _ ?_
  clear e0 e1 e2
  go_wp2_with fail
  go_ret2
  exact ⟨rfl, b1.trans (Below.mono T b1.size)⟩
set_option maxRecDepth 100000 in
set_option maxHeartbeats 3200000 in
theorem reply_14 (o : s.Ok) (hl : s.its.length ≤ 100000) (hk : key.size ≤ 9223372036854775807) (x : Im) (hf : fnd key s.its = some x) (h : ¬ okT s a) (hBw : B ≤ w.heap.size) (r : PRep w B p s) :
    Calls Try.prog 15 #[.pointer (some ⟨p, 0, none⟩), .int .i64 a, .string key, .string rep] w fun e w' => e = .returned (.tuple #[.int .i64 0, .int .i64 14]) ∧ Below w.heap.size w w' := by
  have b1 : Below w.heap.size w (w.alloc (.cells #[.string key] 9)) := (Below.refl _ _).alloc (Nat.le_refl _) _
  have HRR := Lib.hid r
  have HO := Lib.hid o
  have HF := Lib.hid hf
  obtain ⟨h1, mb, zs, A, c, B0, h3, h4, h5, h6, h7⟩ := r
  have hzl : zs.length = s.its.length := by rw [← h5, List.length_map]
  have M1 := h4.call b1
  have B1 := B0.call b1
  obtain ⟨g, hg, hgf⟩ := find_pair (key := key) (zs := zs) (x := x) (by rw [h5]; exact hf)
  have HG := Lib.hid hg
  have HX1 := Lib.hid (Blk.new w 9 #[.string key])
  have e0 := fun n : Cls (UpC (w.alloc (.cells #[.string key] 9))) => (B1.call n.2).c 2 (.map (some mb)) rfl
  have e1 := fun n : Cls (UpC (w.alloc (.cells #[.string key] 9))) => ((Blk.new w 9 #[.string key]).call n.2).c 0 (.string key) rfl
  have e2 := fun n : Cls (UpC (w.alloc (.cells #[.string key] 9))) => look_at (M1.call n.2) hk hgf
  have H4 := Lib.hid h4
  have H5 := Lib.hid h5
  have H6 := Lib.hid h6
  have H7 := Lib.hid h7
  have HB0 := Lib.hid B0
  have hmf := makeF
  have HBw := Lib.hid hBw
  obtain ⟨bx, hbx⟩ : ∃ bx, w.heap.size = bx := ⟨_, rfl⟩
  rw [hbx] at HX1 e1
  clear h4 h5 h6 h7 B0 M1 B1 hf hgf hg o
  go_enter Try.func15, Try.ntmps15
  go_wp2_with fail
  rename_i K0 hKK
  generalize w.alloc (.cells #[.string key] 9) = W1 at b1 HX1 e0 e1 e2 ⊢
  refine wp_region_reg (UpC W1) 11 rfl (by kernel_rfl) ?_
  have T : UpC W1 W1.drew := (Below.refl _ _).drew
  haveI : Nonempty (Cls (UpC W1)) := ⟨⟨_, T⟩⟩
  refine reg_seg (f := 0) (by kernel_rfl) [0, 1, 2, 3, 4, 5, 6, 7, 8, 9, 10] _ _ _ T (by kernel_rfl) ?_
  simp only [pickL, List.filterMap_cons, List.filterMap_nil, List.getElem?_toArray, List.getElem?_cons_zero, List.getElem?_cons_succ]
  show wpQuiet _ _ _ _ [_, _, _, _, _, _, _, _, _, _, _] _
  repeat (go_big_quiet_step (fail))
  refine wpQuiet_nil ?_
  refine reg_end (by kernel_rfl) ?_
  refine hKK _ _ ?_
  clear e0 e1 e2
  have bq := Lib.hid (b1.trans (Below.mono T b1.size))
  have BXq := Lib.hid (HX1.out.call T)
  clear T b1 HX1 hbx
  generalize W1.drew = wq at bq BXq ⊢
  have HQ := possible_any B p s wq a (HRR.out.call bq.out)
  rw [decide_eq_false h] at HQ
  replace HQ := Lib.hid HQ
  clear h
  go_wp2_with (go_at_call 29; refine HQ.out.mono ?_; rintro e w' ⟨rfl, rfl⟩)
  go_ret2
  exact ⟨rfl, bq.out⟩
set_option maxRecDepth 100000 in
set_option maxHeartbeats 3200000 in
theorem reply_3 (o : s.Ok) (hl : s.its.length ≤ 100000) (hk : key.size ≤ 9223372036854775807) (x : Im) (hf : fnd key s.its = some x) (h : okT s a) (hr : 4000 < rep.size) (hBw : B ≤ w.heap.size) (r : PRep w B p s) :
    Calls Try.prog 15 #[.pointer (some ⟨p, 0, none⟩), .int .i64 a, .string key, .string rep] w fun e w' => e = .returned (.tuple #[.int .i64 0, .int .i64 3]) ∧ Below w.heap.size w w' := by
  have b1 : Below w.heap.size w (w.alloc (.cells #[.string key] 9)) := (Below.refl _ _).alloc (Nat.le_refl _) _
  have HRR := Lib.hid r
  have HO := Lib.hid o
  have HF := Lib.hid hf
  obtain ⟨h1, mb, zs, A, c, B0, h3, h4, h5, h6, h7⟩ := r
  have hzl : zs.length = s.its.length := by rw [← h5, List.length_map]
  have M1 := h4.call b1
  have B1 := B0.call b1
  obtain ⟨g, hg, hgf⟩ := find_pair (key := key) (zs := zs) (x := x) (by rw [h5]; exact hf)
  have HG := Lib.hid hg
  have HX1 := Lib.hid (Blk.new w 9 #[.string key])
  have e0 := fun n : Cls (UpC (w.alloc (.cells #[.string key] 9))) => (B1.call n.2).c 2 (.map (some mb)) rfl
  have e1 := fun n : Cls (UpC (w.alloc (.cells #[.string key] 9))) => ((Blk.new w 9 #[.string key]).call n.2).c 0 (.string key) rfl
  have e2 := fun n : Cls (UpC (w.alloc (.cells #[.string key] 9))) => look_at (M1.call n.2) hk hgf
  have H4 := Lib.hid h4
  have H5 := Lib.hid h5
  have H6 := Lib.hid h6
  have H7 := Lib.hid h7
  have HB0 := Lib.hid B0
  have hmf := makeF
  have HBw := Lib.hid hBw
  obtain ⟨bx, hbx⟩ : ∃ bx, w.heap.size = bx := ⟨_, rfl⟩
  rw [hbx] at HX1 e1
  clear h4 h5 h6 h7 B0 M1 B1 hf hgf hg o
  go_enter Try.func15, Try.ntmps15
  go_wp2_with fail
  rename_i K0 hKK
  generalize w.alloc (.cells #[.string key] 9) = W1 at b1 HX1 e0 e1 e2 ⊢
  refine wp_region_reg (UpC W1) 11 rfl (by kernel_rfl) ?_
  have T : UpC W1 W1.drew := (Below.refl _ _).drew
  haveI : Nonempty (Cls (UpC W1)) := ⟨⟨_, T⟩⟩
  refine reg_seg (f := 0) (by kernel_rfl) [0, 1, 2, 3, 4, 5, 6, 7, 8, 9, 10] _ _ _ T (by kernel_rfl) ?_
  simp only [pickL, List.filterMap_cons, List.filterMap_nil, List.getElem?_toArray, List.getElem?_cons_zero, List.getElem?_cons_succ]
  show wpQuiet _ _ _ _ [_, _, _, _, _, _, _, _, _, _, _] _
  repeat (go_big_quiet_step (fail))
  refine wpQuiet_nil ?_
  refine reg_end (by kernel_rfl) ?_
  refine hKK _ _ ?_
  clear e0 e1 e2
  have bq := Lib.hid (b1.trans (Below.mono T b1.size))
  have BXq := Lib.hid (HX1.out.call T)
  clear T b1 HX1 hbx
  generalize W1.drew = wq at bq BXq ⊢
  have HQ := possible_any B p s wq a (HRR.out.call bq.out)
  rw [decide_eq_true h] at HQ
  replace HQ := Lib.hid HQ
  have k1 : 4000 < (rep.size : Int) := by omega
  clear h hr
  go_wp2_with (go_at_call 29; refine HQ.out.mono ?_; rintro e w' ⟨rfl, rfl⟩)
  go_ret2
  exact ⟨rfl, bq.out⟩
set_option maxRecDepth 100000 in
set_option maxHeartbeats 3200000 in
theorem reply_1 (o : s.Ok) (hl : s.its.length ≤ 100000) (hk : key.size ≤ 9223372036854775807) (x : Im) (hf : fnd key s.its = some x) (h : okT s a) (hr : ¬ 4000 < rep.size) (h0 : x.st = 1) (hBw : B ≤ w.heap.size) (r : PRep w B p s) :
    Calls Try.prog 15 #[.pointer (some ⟨p, 0, none⟩), .int .i64 a, .string key, .string rep] w fun e w' => e = .returned (.tuple #[.int .i64 3, .int .i64 0]) ∧ PRep w' B p (repS s a key rep) ∧ Turn B PT true w w' := by
  have b1 : Below w.heap.size w (w.alloc (.cells #[.string key] 9)) := (Below.refl _ _).alloc (Nat.le_refl _) _
  have HRR := Lib.hid r
  have HO := Lib.hid o
  have HF := Lib.hid hf
  obtain ⟨h1, mb, zs, A, c, B0, h3, h4, h5, h6, h7⟩ := r
  have hzl : zs.length = s.its.length := by rw [← h5, List.length_map]
  have M1 := h4.call b1
  have B1 := B0.call b1
  obtain ⟨g, hg, hgf⟩ := find_pair (key := key) (zs := zs) (x := x) (by rw [h5]; exact hf)
  have HG := Lib.hid hg
  have HX1 := Lib.hid (Blk.new w 9 #[.string key])
  have e0 := fun n : Cls (UpC (w.alloc (.cells #[.string key] 9))) => (B1.call n.2).c 2 (.map (some mb)) rfl
  have e1 := fun n : Cls (UpC (w.alloc (.cells #[.string key] 9))) => ((Blk.new w 9 #[.string key]).call n.2).c 0 (.string key) rfl
  have e2 := fun n : Cls (UpC (w.alloc (.cells #[.string key] 9))) => look_at (M1.call n.2) hk hgf
  have H4 := Lib.hid h4
  have H5 := Lib.hid h5
  have H6 := Lib.hid h6
  have H7 := Lib.hid h7
  have HB0 := Lib.hid B0
  have hmf := makeF
  have HBw := Lib.hid hBw
  obtain ⟨bx, hbx⟩ : ∃ bx, w.heap.size = bx := ⟨_, rfl⟩
  rw [hbx] at HX1 e1
  clear h4 h5 h6 h7 B0 M1 B1 hf hgf hg o
  go_enter Try.func15, Try.ntmps15
  go_wp2_with fail
  rename_i K0 hKK
  generalize w.alloc (.cells #[.string key] 9) = W1 at b1 HX1 e0 e1 e2 ⊢
  refine wp_region_reg (UpC W1) 11 rfl (by kernel_rfl) ?_
  have T : UpC W1 W1.drew := (Below.refl _ _).drew
  haveI : Nonempty (Cls (UpC W1)) := ⟨⟨_, T⟩⟩
  refine reg_seg (f := 0) (by kernel_rfl) [0, 1, 2, 3, 4, 5, 6, 7, 8, 9, 10] _ _ _ T (by kernel_rfl) ?_
  simp only [pickL, List.filterMap_cons, List.filterMap_nil, List.getElem?_toArray, List.getElem?_cons_zero, List.getElem?_cons_succ]
  show wpQuiet _ _ _ _ [_, _, _, _, _, _, _, _, _, _, _] _
  repeat (go_big_quiet_step (fail))
  refine wpQuiet_nil ?_
  refine reg_end (by kernel_rfl) ?_
  refine hKK _ _ ?_
  clear e0 e1 e2
  have bq := Lib.hid (b1.trans (Below.mono T b1.size))
  have BXq := Lib.hid (HX1.out.call T)
  clear T b1 HX1 hbx
  generalize W1.drew = wq at bq BXq ⊢
  have HQ := possible_any B p s wq a (HRR.out.call bq.out)
  rw [decide_eq_true h] at HQ
  replace HQ := Lib.hid HQ
  have k1 : ¬ 4000 < (rep.size : Int) := by omega
  have Xq := HB0.out.call bq.out
  have lq := Xq.lt
  have fq := Xq.frozen
  have dq : wq.cell? ⟨p, 1, none⟩ = some (.int .i64 s.now) := Xq.c 1 _ rfl
  go_wp2_with (go_at_call 29; refine HQ.out.mono ?_; rintro e w' ⟨rfl, rfl⟩)
  have Zq := H6.out.keep (fun _ _ b => b.call bq.out)
  have X2 := Lib.hid (blk4_s1 Xq (.int .i64 a))
  have M2 := Lib.hid ((H4.out.call bq.out).set_ Xq 1 (.int .i64 a))
  have Z2 := Lib.hid (Zq.keep (fun _ _ b => b.far (w := wq) (p := ⟨p, 1, none⟩) (by exact Blk.ne_ b Xq (by decide)) (.int .i64 a)))
  have R2 := Lib.hid ((H7.out.call bq.out).far Xq (by decide) 1 (.int .i64 a))
  have BX2 := Lib.hid (BXq.out.far (p := ⟨p, 1, none⟩) (by exact Blk.ne_ BXq.out Xq (by decide)) (.int .i64 a))
  have P2 := Lib.hid ((HRR.out.call bq.out).setNow a)
  have T2 := Lib.hid ((Turn.of_below (T := PT) (m := true) bq.out HBw.out).setB Xq rfl h1 1 (.int .i64 a))
  clear Xq lq fq dq Zq
  generalize wq.setCell ⟨p, 1, none⟩ (.int .i64 a) = w2 at X2 M2 Z2 R2 BX2 P2 T2 ⊢
  have BG := (Z2.out.2 _ HG.out).2
  have hBg := (Z2.out.2 _ HG.out).1
  simp only at BG hBg
  have d3 : w2.cell? ⟨g, 3, none⟩ = some (.int .i64 (x.at_ + s.tmo)) := BG.c 3 _ rfl
  have d4 : w2.cell? ⟨g, 4, none⟩ = some (.int .i64 (oc x.st)) := BG.c 4 _ rfl
  have d2 : w2.cell? ⟨g, 2, none⟩ = some (.string x.reply) := BG.c 2 _ rfl
  have I1 := is_any w2 g (oc x.st) 1 d4
  have I2 := is_any w2 g (oc x.st) 2 d4
  rw [h0, show decide (oc 1 = 1) = true from rfl] at I1
  replace I1 := Lib.hid I1
  have HS := Lib.hid (repS_same HO.out HF.out h hr (by omega))
  clear I2 h h0 hr d2 d3 d4
  refine I1.out.mono ?_
  rintro e w' ⟨rfl, rfl⟩
  go_wp2_with fail
  go_ret2
  rw [HS.out]
  exact ⟨rfl, P2.out, T2.out⟩
set_option maxRecDepth 100000 in
set_option maxHeartbeats 3200000 in
theorem reply_2 (o : s.Ok) (hl : s.its.length ≤ 100000) (hk : key.size ≤ 9223372036854775807) (x : Im) (hf : fnd key s.its = some x) (h : okT s a) (hr : ¬ 4000 < rep.size) (h0 : ¬ x.st = 0) (h00 : ¬ x.st = 1) (hBw : B ≤ w.heap.size) (r : PRep w B p s) :
    Calls Try.prog 15 #[.pointer (some ⟨p, 0, none⟩), .int .i64 a, .string key, .string rep] w fun e w' => e = .returned (.tuple #[.int .i64 2, .int .i64 0]) ∧ PRep w' B p (repS s a key rep) ∧ Turn B PT true w w' := by
  have b1 : Below w.heap.size w (w.alloc (.cells #[.string key] 9)) := (Below.refl _ _).alloc (Nat.le_refl _) _
  have HRR := Lib.hid r
  have HO := Lib.hid o
  have HF := Lib.hid hf
  obtain ⟨h1, mb, zs, A, c, B0, h3, h4, h5, h6, h7⟩ := r
  have hzl : zs.length = s.its.length := by rw [← h5, List.length_map]
  have M1 := h4.call b1
  have B1 := B0.call b1
  obtain ⟨g, hg, hgf⟩ := find_pair (key := key) (zs := zs) (x := x) (by rw [h5]; exact hf)
  have HG := Lib.hid hg
  have HX1 := Lib.hid (Blk.new w 9 #[.string key])
  have e0 := fun n : Cls (UpC (w.alloc (.cells #[.string key] 9))) => (B1.call n.2).c 2 (.map (some mb)) rfl
  have e1 := fun n : Cls (UpC (w.alloc (.cells #[.string key] 9))) => ((Blk.new w 9 #[.string key]).call n.2).c 0 (.string key) rfl
  have e2 := fun n : Cls (UpC (w.alloc (.cells #[.string key] 9))) => look_at (M1.call n.2) hk hgf
  have H4 := Lib.hid h4
  have H5 := Lib.hid h5
  have H6 := Lib.hid h6
  have H7 := Lib.hid h7
  have HB0 := Lib.hid B0
  have hmf := makeF
  have HBw := Lib.hid hBw
  obtain ⟨bx, hbx⟩ : ∃ bx, w.heap.size = bx := ⟨_, rfl⟩
  rw [hbx] at HX1 e1
  clear h4 h5 h6 h7 B0 M1 B1 hf hgf hg o
  go_enter Try.func15, Try.ntmps15
  go_wp2_with fail
  rename_i K0 hKK
  generalize w.alloc (.cells #[.string key] 9) = W1 at b1 HX1 e0 e1 e2 ⊢
  refine wp_region_reg (UpC W1) 11 rfl (by kernel_rfl) ?_
  have T : UpC W1 W1.drew := (Below.refl _ _).drew
  haveI : Nonempty (Cls (UpC W1)) := ⟨⟨_, T⟩⟩
  refine reg_seg (f := 0) (by kernel_rfl) [0, 1, 2, 3, 4, 5, 6, 7, 8, 9, 10] _ _ _ T (by kernel_rfl) ?_
  simp only [pickL, List.filterMap_cons, List.filterMap_nil, List.getElem?_toArray, List.getElem?_cons_zero, List.getElem?_cons_succ]
  show wpQuiet _ _ _ _ [_, _, _, _, _, _, _, _, _, _, _] _
  repeat (go_big_quiet_step (fail))
  refine wpQuiet_nil ?_
  refine reg_end (by kernel_rfl) ?_
  refine hKK _ _ ?_
  clear e0 e1 e2
  have bq := Lib.hid (b1.trans (Below.mono T b1.size))
  have BXq := Lib.hid (HX1.out.call T)
  clear T b1 HX1 hbx
  generalize W1.drew = wq at bq BXq ⊢
  have HQ := possible_any B p s wq a (HRR.out.call bq.out)
  rw [decide_eq_true h] at HQ
  replace HQ := Lib.hid HQ
  have k1 : ¬ 4000 < (rep.size : Int) := by omega
  have Xq := HB0.out.call bq.out
  have lq := Xq.lt
  have fq := Xq.frozen
  have dq : wq.cell? ⟨p, 1, none⟩ = some (.int .i64 s.now) := Xq.c 1 _ rfl
  go_wp2_with (go_at_call 29; refine HQ.out.mono ?_; rintro e w' ⟨rfl, rfl⟩)
  have Zq := H6.out.keep (fun _ _ b => b.call bq.out)
  have X2 := Lib.hid (blk4_s1 Xq (.int .i64 a))
  have M2 := Lib.hid ((H4.out.call bq.out).set_ Xq 1 (.int .i64 a))
  have Z2 := Lib.hid (Zq.keep (fun _ _ b => b.far (w := wq) (p := ⟨p, 1, none⟩) (by exact Blk.ne_ b Xq (by decide)) (.int .i64 a)))
  have R2 := Lib.hid ((H7.out.call bq.out).far Xq (by decide) 1 (.int .i64 a))
  have BX2 := Lib.hid (BXq.out.far (p := ⟨p, 1, none⟩) (by exact Blk.ne_ BXq.out Xq (by decide)) (.int .i64 a))
  have P2 := Lib.hid ((HRR.out.call bq.out).setNow a)
  have T2 := Lib.hid ((Turn.of_below (T := PT) (m := true) bq.out HBw.out).setB Xq rfl h1 1 (.int .i64 a))
  clear Xq lq fq dq Zq
  generalize wq.setCell ⟨p, 1, none⟩ (.int .i64 a) = w2 at X2 M2 Z2 R2 BX2 P2 T2 ⊢
  have BG := (Z2.out.2 _ HG.out).2
  have hBg := (Z2.out.2 _ HG.out).1
  simp only at BG hBg
  have d3 : w2.cell? ⟨g, 3, none⟩ = some (.int .i64 (x.at_ + s.tmo)) := BG.c 3 _ rfl
  have d4 : w2.cell? ⟨g, 4, none⟩ = some (.int .i64 (oc x.st)) := BG.c 4 _ rfl
  have d2 : w2.cell? ⟨g, 2, none⟩ = some (.string x.reply) := BG.c 2 _ rfl
  have I1 := is_any w2 g (oc x.st) 1 d4
  have I2 := is_any w2 g (oc x.st) 2 d4
  have ho : oc x.st = 2 := by unfold oc; rw [if_neg h0, if_neg h00]
  rw [ho, show decide ((2 : Int) = 1) = false from rfl] at I1
  rw [ho, show decide ((2 : Int) = 2) = true from rfl] at I2
  replace I1 := Lib.hid I1
  replace I2 := Lib.hid I2
  have HS := Lib.hid (repS_same HO.out HF.out h hr h0)
  clear h h0 h00 hr d2 d3 d4 ho
  refine I1.out.mono ?_
  rintro e w' ⟨rfl, rfl⟩
  go_wp2_with (go_at_call 33; refine I2.out.mono ?_; rintro e w' ⟨rfl, rfl⟩)
  go_ret2
  rw [HS.out]
  exact ⟨rfl, P2.out, T2.out⟩
set_option maxRecDepth 100000 in
set_option maxHeartbeats 3200000 in
theorem reply_late (o : s.Ok) (hl : s.its.length ≤ 100000) (hk : key.size ≤ 9223372036854775807) (x : Im) (hf : fnd key s.its = some x) (h : okT s a) (hr : ¬ 4000 < rep.size) (h0 : x.st = 0) (hd : ¬ a < x.at_ + s.tmo) (hBw : B ≤ w.heap.size) (r : PRep w B p s) :
    Calls Try.prog 15 #[.pointer (some ⟨p, 0, none⟩), .int .i64 a, .string key, .string rep] w fun e w' => e = .returned (.tuple #[.int .i64 2, .int .i64 0]) ∧ PRep w' B p (repS s a key rep) ∧ Turn B PT true w w' := by
  have b1 : Below w.heap.size w (w.alloc (.cells #[.string key] 9)) := (Below.refl _ _).alloc (Nat.le_refl _) _
  have HRR := Lib.hid r
  have HO := Lib.hid o
  have HF := Lib.hid hf
  obtain ⟨h1, mb, zs, A, c, B0, h3, h4, h5, h6, h7⟩ := r
  have hzl : zs.length = s.its.length := by rw [← h5, List.length_map]
  have M1 := h4.call b1
  have B1 := B0.call b1
  obtain ⟨g, hg, hgf⟩ := find_pair (key := key) (zs := zs) (x := x) (by rw [h5]; exact hf)
  have HG := Lib.hid hg
  have HX1 := Lib.hid (Blk.new w 9 #[.string key])
  have e0 := fun n : Cls (UpC (w.alloc (.cells #[.string key] 9))) => (B1.call n.2).c 2 (.map (some mb)) rfl
  have e1 := fun n : Cls (UpC (w.alloc (.cells #[.string key] 9))) => ((Blk.new w 9 #[.string key]).call n.2).c 0 (.string key) rfl
  have e2 := fun n : Cls (UpC (w.alloc (.cells #[.string key] 9))) => look_at (M1.call n.2) hk hgf
  have H4 := Lib.hid h4
  have H5 := Lib.hid h5
  have H6 := Lib.hid h6
  have H7 := Lib.hid h7
  have HB0 := Lib.hid B0
  have hmf := makeF
  have HBw := Lib.hid hBw
  obtain ⟨bx, hbx⟩ : ∃ bx, w.heap.size = bx := ⟨_, rfl⟩
  rw [hbx] at HX1 e1
  clear h4 h5 h6 h7 B0 M1 B1 hf hgf hg o
  go_enter Try.func15, Try.ntmps15
  go_wp2_with fail
  rename_i K0 hKK
  generalize w.alloc (.cells #[.string key] 9) = W1 at b1 HX1 e0 e1 e2 ⊢
  refine wp_region_reg (UpC W1) 11 rfl (by kernel_rfl) ?_
  have T : UpC W1 W1.drew := (Below.refl _ _).drew
  haveI : Nonempty (Cls (UpC W1)) := ⟨⟨_, T⟩⟩
  refine reg_seg (f := 0) (by kernel_rfl) [0, 1, 2, 3, 4, 5, 6, 7, 8, 9, 10] _ _ _ T (by kernel_rfl) ?_
  simp only [pickL, List.filterMap_cons, List.filterMap_nil, List.getElem?_toArray, List.getElem?_cons_zero, List.getElem?_cons_succ]
  show wpQuiet _ _ _ _ [_, _, _, _, _, _, _, _, _, _, _] _
  repeat (go_big_quiet_step (fail))
  refine wpQuiet_nil ?_
  refine reg_end (by kernel_rfl) ?_
  refine hKK _ _ ?_
  clear e0 e1 e2
  have bq := Lib.hid (b1.trans (Below.mono T b1.size))
  have BXq := Lib.hid (HX1.out.call T)
  clear T b1 HX1 hbx
  generalize W1.drew = wq at bq BXq ⊢
  have HQ := possible_any B p s wq a (HRR.out.call bq.out)
  rw [decide_eq_true h] at HQ
  replace HQ := Lib.hid HQ
  have k1 : ¬ 4000 < (rep.size : Int) := by omega
  have Xq := HB0.out.call bq.out
  have lq := Xq.lt
  have fq := Xq.frozen
  have dq : wq.cell? ⟨p, 1, none⟩ = some (.int .i64 s.now) := Xq.c 1 _ rfl
  go_wp2_with (go_at_call 29; refine HQ.out.mono ?_; rintro e w' ⟨rfl, rfl⟩)
  have Zq := H6.out.keep (fun _ _ b => b.call bq.out)
  have X2 := Lib.hid (blk4_s1 Xq (.int .i64 a))
  have M2 := Lib.hid ((H4.out.call bq.out).set_ Xq 1 (.int .i64 a))
  have Z2 := Lib.hid (Zq.keep (fun _ _ b => b.far (w := wq) (p := ⟨p, 1, none⟩) (by exact Blk.ne_ b Xq (by decide)) (.int .i64 a)))
  have R2 := Lib.hid ((H7.out.call bq.out).far Xq (by decide) 1 (.int .i64 a))
  have BX2 := Lib.hid (BXq.out.far (p := ⟨p, 1, none⟩) (by exact Blk.ne_ BXq.out Xq (by decide)) (.int .i64 a))
  have P2 := Lib.hid ((HRR.out.call bq.out).setNow a)
  have T2 := Lib.hid ((Turn.of_below (T := PT) (m := true) bq.out HBw.out).setB Xq rfl h1 1 (.int .i64 a))
  clear Xq lq fq dq Zq
  generalize wq.setCell ⟨p, 1, none⟩ (.int .i64 a) = w2 at X2 M2 Z2 R2 BX2 P2 T2 ⊢
  have BG := (Z2.out.2 _ HG.out).2
  have hBg := (Z2.out.2 _ HG.out).1
  simp only at BG hBg
  have d3 : w2.cell? ⟨g, 3, none⟩ = some (.int .i64 (x.at_ + s.tmo)) := BG.c 3 _ rfl
  have d4 : w2.cell? ⟨g, 4, none⟩ = some (.int .i64 (oc x.st)) := BG.c 4 _ rfl
  have d2 : w2.cell? ⟨g, 2, none⟩ = some (.string x.reply) := BG.c 2 _ rfl
  have I1 := is_any w2 g (oc x.st) 1 d4
  have I2 := is_any w2 g (oc x.st) 2 d4
  rw [h0, show decide (oc 0 = 1) = false from rfl] at I1
  rw [h0, show decide (oc 0 = 2) = false from rfl] at I2
  replace I1 := Lib.hid I1
  replace I2 := Lib.hid I2
  have hd2 : x.at_ + s.tmo ≤ a := by omega
  have fg := BG.frozen
  have lg := BG.lt
  have HBG := Lib.hid BG
  have HD := Lib.hid hd
  have HH := Lib.hid h
  have HH0 := Lib.hid h0
  have HHR := Lib.hid hr
  clear h h0 hr d2 hd BG
  refine I1.out.mono ?_
  rintro e w' ⟨rfl, rfl⟩
  go_wp2_with (go_at_call 33; refine I2.out.mono ?_; rintro e w' ⟨rfl, rfl⟩)
  go_ret2
  have hkeys : ((zs.map Prod.snd).map Im.key).Nodup := by rw [H5.out]; exact HO.out.keys
  have hxk : x.key = key := (fnd_some HF.out).2
  have hu : ∀ z ∈ zs, z.2.key = key → z = (g, x) := fun z hz e => uniqZ hkeys hz HG.out (by rw [e, hxk])
  have hgx : repU s.tmo a rep x = { x with st := 2 } := by unfold repU; rw [if_pos HH0.out, if_neg (by have := HD.out; omega)]
  have hall : ∀ z ∈ zs, z.2.key = key → repU s.tmo a rep z.2 = { x with st := 2 } := fun z hz e => by rw [hu z hz e]; exact hgx
  have hp : ∀ z ∈ zs, z.2.key = key → pendB (repU s.tmo a rep z.2) = pendB z.2 := fun z hz e => by
    rw [hall z hz e, hu z hz e]
    unfold pendB
    rw [HH0.out]
    rfl
  have hpz := updZ_pnd_same hp
  have hpl : (pnd (updZ key (repU s.tmo a rep) zs)).length = (pnd zs).length := by
    have := congrArg List.length hpz
    simpa using this
  have hrs : repS s a key rep = ⟨s.tmo, a, upd key (repU s.tmo a rep) s.its⟩ := by
    unfold repS
    rw [HF.out]
    simp only [not_not_intro HH.out, if_false, HHR.out]
  rw [hrs]
  refine ⟨rfl, ⟨h1, mb, updZ key (repU s.tmo a rep) zs, A, c, ?_, h3, ?_, ?_, ?_, ?_⟩, T2.out.setB HBG.out rfl hBg 4 _⟩
  · rw [hpl]
    exact X2.out.far (by exact Blk.ne_ X2.out HBG.out (by decide)) _
  · rw [updZ_len, updZ_look (repU_key _ _ _)]
    exact M2.out.set_ HBG.out 4 _
  · rw [updZ_snd, H5.out]
  · refine Z2.out.turn1 HG.out hxk hu ?_ (fun q cs hq hb => hb.far (by exact hq) _)
    rw [hgx]
    exact blk5_s4 HBG.out _
  · rw [hpl, hpz]
    exact R2.out.far HBG.out (by decide) 4 _
set_option maxRecDepth 100000 in
set_option maxHeartbeats 3200000 in
theorem reply_yes (o : s.Ok) (hl : s.its.length ≤ 100000) (hk : key.size ≤ 9223372036854775807) (x : Im) (hf : fnd key s.its = some x) (h : okT s a) (hr : ¬ 4000 < rep.size) (h0 : x.st = 0) (hd : a < x.at_ + s.tmo) (hBw : B ≤ w.heap.size) (r : PRep w B p s) :
    Calls Try.prog 15 #[.pointer (some ⟨p, 0, none⟩), .int .i64 a, .string key, .string rep] w fun e w' => e = .returned (.tuple #[.int .i64 1, .int .i64 0]) ∧ PRep w' B p (repS s a key rep) ∧ Turn B PT true w w' := by
  have b1 : Below w.heap.size w (w.alloc (.cells #[.string key] 9)) := (Below.refl _ _).alloc (Nat.le_refl _) _
  have HRR := Lib.hid r
  have HO := Lib.hid o
  have HF := Lib.hid hf
  obtain ⟨h1, mb, zs, A, c, B0, h3, h4, h5, h6, h7⟩ := r
  have hzl : zs.length = s.its.length := by rw [← h5, List.length_map]
  have M1 := h4.call b1
  have B1 := B0.call b1
  obtain ⟨g, hg, hgf⟩ := find_pair (key := key) (zs := zs) (x := x) (by rw [h5]; exact hf)
  have HG := Lib.hid hg
  have HX1 := Lib.hid (Blk.new w 9 #[.string key])
  have e0 := fun n : Cls (UpC (w.alloc (.cells #[.string key] 9))) => (B1.call n.2).c 2 (.map (some mb)) rfl
  have e1 := fun n : Cls (UpC (w.alloc (.cells #[.string key] 9))) => ((Blk.new w 9 #[.string key]).call n.2).c 0 (.string key) rfl
  have e2 := fun n : Cls (UpC (w.alloc (.cells #[.string key] 9))) => look_at (M1.call n.2) hk hgf
  have H4 := Lib.hid h4
  have H5 := Lib.hid h5
  have H6 := Lib.hid h6
  have H7 := Lib.hid h7
  have HB0 := Lib.hid B0
  have hmf := makeF
  have HBw := Lib.hid hBw
  obtain ⟨bx, hbx⟩ : ∃ bx, w.heap.size = bx := ⟨_, rfl⟩
  rw [hbx] at HX1 e1
  clear h4 h5 h6 h7 B0 M1 B1 hf hgf hg o
  go_enter Try.func15, Try.ntmps15
  go_wp2_with fail
  rename_i K0 hKK
  generalize w.alloc (.cells #[.string key] 9) = W1 at b1 HX1 e0 e1 e2 ⊢
  refine wp_region_reg (UpC W1) 11 rfl (by kernel_rfl) ?_
  have T : UpC W1 W1.drew := (Below.refl _ _).drew
  haveI : Nonempty (Cls (UpC W1)) := ⟨⟨_, T⟩⟩
  refine reg_seg (f := 0) (by kernel_rfl) [0, 1, 2, 3, 4, 5, 6, 7, 8, 9, 10] _ _ _ T (by kernel_rfl) ?_
  simp only [pickL, List.filterMap_cons, List.filterMap_nil, List.getElem?_toArray, List.getElem?_cons_zero, List.getElem?_cons_succ]
  show wpQuiet _ _ _ _ [_, _, _, _, _, _, _, _, _, _, _] _
  repeat (go_big_quiet_step (fail))
  refine wpQuiet_nil ?_
  refine reg_end (by kernel_rfl) ?_
  refine hKK _ _ ?_
  clear e0 e1 e2
  have bq := Lib.hid (b1.trans (Below.mono T b1.size))
  have BXq := Lib.hid (HX1.out.call T)
  clear T b1 HX1 hbx
  generalize W1.drew = wq at bq BXq ⊢
  have HQ := possible_any B p s wq a (HRR.out.call bq.out)
  rw [decide_eq_true h] at HQ
  replace HQ := Lib.hid HQ
  have k1 : ¬ 4000 < (rep.size : Int) := by omega
  have Xq := HB0.out.call bq.out
  have lq := Xq.lt
  have fq := Xq.frozen
  have dq : wq.cell? ⟨p, 1, none⟩ = some (.int .i64 s.now) := Xq.c 1 _ rfl
  go_wp2_with (go_at_call 29; refine HQ.out.mono ?_; rintro e w' ⟨rfl, rfl⟩)
  have Zq := H6.out.keep (fun _ _ b => b.call bq.out)
  have X2 := Lib.hid (blk4_s1 Xq (.int .i64 a))
  have M2 := Lib.hid ((H4.out.call bq.out).set_ Xq 1 (.int .i64 a))
  have Z2 := Lib.hid (Zq.keep (fun _ _ b => b.far (w := wq) (p := ⟨p, 1, none⟩) (by exact Blk.ne_ b Xq (by decide)) (.int .i64 a)))
  have R2 := Lib.hid ((H7.out.call bq.out).far Xq (by decide) 1 (.int .i64 a))
  have BX2 := Lib.hid (BXq.out.far (p := ⟨p, 1, none⟩) (by exact Blk.ne_ BXq.out Xq (by decide)) (.int .i64 a))
  have P2 := Lib.hid ((HRR.out.call bq.out).setNow a)
  have T2 := Lib.hid ((Turn.of_below (T := PT) (m := true) bq.out HBw.out).setB Xq rfl h1 1 (.int .i64 a))
  clear Xq lq fq dq Zq
  generalize wq.setCell ⟨p, 1, none⟩ (.int .i64 a) = w2 at X2 M2 Z2 R2 BX2 P2 T2 ⊢
  have BG := (Z2.out.2 _ HG.out).2
  have hBg := (Z2.out.2 _ HG.out).1
  simp only at BG hBg
  have d3 : w2.cell? ⟨g, 3, none⟩ = some (.int .i64 (x.at_ + s.tmo)) := BG.c 3 _ rfl
  have d4 : w2.cell? ⟨g, 4, none⟩ = some (.int .i64 (oc x.st)) := BG.c 4 _ rfl
  have d2 : w2.cell? ⟨g, 2, none⟩ = some (.string x.reply) := BG.c 2 _ rfl
  have I1 := is_any w2 g (oc x.st) 1 d4
  have I2 := is_any w2 g (oc x.st) 2 d4
  rw [h0, show decide (oc 0 = 1) = false from rfl] at I1
  rw [h0, show decide (oc 0 = 2) = false from rfl] at I2
  replace I1 := Lib.hid I1
  replace I2 := Lib.hid I2
  have hd2 : ¬ x.at_ + s.tmo ≤ a := by omega
  have fg := BG.frozen
  have lg := BG.lt
  have HBG := Lib.hid BG
  have HD := Lib.hid hd
  have HH := Lib.hid h
  have HH0 := Lib.hid h0
  have HHR := Lib.hid hr
  have hne : g ≠ p := Blk.ne_ BG X2.out (by decide)
  have hne2 : p ≠ g := Ne.symm hne
  have cp3 : w2.cell? ⟨p, 3, none⟩ = some (.slice A (pnd zs).length c) := X2.out.c 3 _ rfl
  have BG3 := blk5_s2 (blk5_s4 BG (.int .i64 1)) (.string rep)
  have X3 := (X2.out.far (p := ⟨g, 4, none⟩) (by exact hne2) (.int .i64 1)).far (p := ⟨g, 2, none⟩) (by exact hne2) (.string rep)
  have M3 := Lib.hid ((M2.out.set_ BG 4 (.int .i64 1)).set_ (blk5_s4 BG (.int .i64 1)) 2 (.string rep))
  have R3 := Lib.hid ((R2.out.far BG (by decide) 4 (.int .i64 1)).far (blk5_s4 BG (.int .i64 1)) (by decide) 2 (.string rep))
  have BX3 := Lib.hid ((BX2.out.far (p := ⟨g, 4, none⟩) (by exact Blk.ne_ BX2.out BG (by decide)) (.int .i64 1)).far (p := ⟨g, 2, none⟩) (by exact Blk.ne_ BX2.out BG (by decide)) (.string rep))
  have T3 := Lib.hid ((T2.out.setB BG rfl hBg 4 (.int .i64 1)).setB (blk5_s4 BG (.int .i64 1)) rfl hBg 2 (.string rep))
  have hkeys : ((zs.map Prod.snd).map Im.key).Nodup := by rw [H5.out]; exact HO.out.keys
  have hxk : x.key = key := (fnd_some HF.out).2
  have hu : ∀ z ∈ zs, z.2.key = key → z = (g, x) := fun z hz e => uniqZ hkeys hz HG.out (by rw [e, hxk])
  have hgx : repU s.tmo a rep x = { x with st := 1, reply := rep } := by unfold repU; rw [if_pos h0, if_pos hd]
  have Z3 := Lib.hid (Z2.out.turn1 (g := repU s.tmo a rep) HG.out hxk hu (by rw [hgx]; exact BG3) (fun q cs hq hb => (hb.far (p := ⟨g, 4, none⟩) (by exact hq) (.int .i64 1)).far (p := ⟨g, 2, none⟩) (by exact hq) (.string rep)))
  have hgone : pnd (updZ key (repU s.tmo a rep) zs) = (pnd zs).filter (keepB key) := updZ_pnd_gone (fun z hz e => by rw [hu z hz e, hgx]; rfl)
  have HGO := Lib.hid hgone
  have KZ3 : KZ ((w2.setCell ⟨g, 4, none⟩ (.int .i64 1)).setCell ⟨g, 2, none⟩ (.string rep)) (pnd zs) := fun z hz => by
    obtain ⟨hz1, _⟩ := pnd_mem hz
    have hm : (z.1, if z.2.key = key then repU s.tmo a rep z.2 else z.2) ∈ updZ key (repU s.tmo a rep) zs := List.mem_map.2 ⟨z, hz1, rfl⟩
    refine ⟨_, (Z3.out.2 _ hm).2, ?_⟩
    show some (Value.string (if z.2.key = key then repU s.tmo a rep z.2 else z.2).key) = _
    split
    · rw [repU_key]
    · rfl
  have HDF := Lib.hid (deleteFunc_any B A c (pnd zs) key bx _ (Nat.le_trans HBw.out T3.out.size) R3.out KZ3 BX3.out)
  have HX3 := Lib.hid X3
  clear h h0 hr d2 hd hkeys hxk hu hgx hgone KZ3 BG BG3 X3
  have d2 : w2.cell? ⟨g, 2, none⟩ = some (.string x.reply) := HBG.out.c 2 _ rfl
  refine I1.out.mono ?_
  rintro e w' ⟨rfl, rfl⟩
  go_wp2_with (first
    | (go_at_call 33; refine I2.out.mono ?_; rintro e w' ⟨rfl, rfl⟩)
    | (go_at_call 34
       refine HDF.out.mono ?_
       rintro e w4 ⟨rfl, R4, T4⟩
       have X4 := HX3.out.turn T4 rfl
       have l4 := X4.lt
       have f4 := X4.frozen
       have d4' : w4.cell? ⟨p, 3, none⟩ = some (.slice A (pnd zs).length c) := X4.c 3 _ rfl
       have M4 := Lib.hid (M3.out.turn T4)
       have Z4 := Lib.hid (Z3.out.keep (fun _ _ b => b.turn T4 rfl))
       have R4' := Lib.hid R4
       have T4' := Lib.hid (T3.out.trans (T4.mono (Nat.le_refl _) (fun t ht => by simp at ht ⊢; subst ht; simp) (fun hh => by cases hh)))
       clear R4 T4 d2 d3 d4 cp3))
  go_ret2
  have hrs : repS s a key rep = ⟨s.tmo, a, upd key (repU s.tmo a rep) s.its⟩ := by
    unfold repS
    rw [HF.out]
    simp only [not_not_intro HH.out, if_false, HHR.out]
  rw [hrs]
  refine ⟨rfl, ⟨h1, mb, updZ key (repU s.tmo a rep) zs, A, c, ?_, h3, ?_, ?_, ?_, ?_⟩, T4'.out.setB X4 rfl h1 3 _⟩
  · rw [HGO.out]
    exact blk4_s3 X4 _
  · rw [updZ_len, updZ_look (repU_key _ _ _)]
    exact M4.out.set_ X4 3 _
  · rw [updZ_snd, H5.out]
  · exact Z4.out.keep (fun _ _ b => b.far (by exact Blk.ne_ b X4 (by decide)) _)
  · rw [HGO.out]
    exact R4'.out.far X4 (by decide) 3 _
def RepRet (B p : Nat) (s : XS) (a : Int) (key rep : ByteArray) (w : World) (e : Ending) (w' : World) : Prop :=
  e = .returned (.tuple #[.int .i64 (repN s a key rep), .int .i64 (repE s a key rep)]) ∧ PRep w' B p (repS s a key rep) ∧ Turn B PT true w w'
theorem reply_any (o : s.Ok) (hl : s.its.length ≤ 100000) (hk : key.size ≤ 9223372036854775807) (hBw : B ≤ w.heap.size) (r : PRep w B p s) :
    Calls Try.prog 15 #[.pointer (some ⟨p, 0, none⟩), .int .i64 a, .string key, .string rep] w (RepRet B p s a key rep w) := by
  cases hf : fnd key s.its with
  | none =>
    refine (reply_none B p s a key rep w hk hf r).mono fun e w' ⟨h1, h2⟩ => ⟨by unfold repN repE; rw [hf]; exact h1, ?_, Turn.of_below h2 hBw⟩
    unfold repS
    rw [hf]
    exact r.call h2
  | some x =>
    by_cases h : okT s a
    · by_cases hr : 4000 < rep.size
      · refine (reply_3 B p s a key rep w o hl hk x hf h hr hBw r).mono fun e w' ⟨h1, h2⟩ => ⟨by unfold repN repE; rw [hf]; simp only [not_not_intro h, if_false, hr, if_true]; exact h1, ?_, Turn.of_below h2 hBw⟩
        unfold repS
        rw [hf]
        simp only [not_not_intro h, if_false, hr, if_true]
        exact r.call h2
      · have hE : repE s a key rep = 0 := by unfold repE; rw [hf]; simp only [not_not_intro h, if_false, hr]
        have hN : repN s a key rep = if x.st = 1 then 3 else if x.st = 0 ∧ a < x.at_ + s.tmo then 1 else 2 := by unfold repN; rw [hf]; simp only [not_not_intro h, if_false, hr]
        by_cases h1 : x.st = 1
        · exact (reply_1 B p s a key rep w o hl hk x hf h hr h1 hBw r).mono fun e w' ⟨e1, e2, e3⟩ => ⟨by rw [hE, hN, if_pos h1]; exact e1, e2, e3⟩
        · by_cases h0 : x.st = 0
          · by_cases hd : a < x.at_ + s.tmo
            · exact (reply_yes B p s a key rep w o hl hk x hf h hr h0 hd hBw r).mono fun e w' ⟨e1, e2, e3⟩ => ⟨by rw [hE, hN, if_neg h1, if_pos ⟨h0, hd⟩]; exact e1, e2, e3⟩
            · exact (reply_late B p s a key rep w o hl hk x hf h hr h0 hd hBw r).mono fun e w' ⟨e1, e2, e3⟩ => ⟨by rw [hE, hN, if_neg h1, if_neg (fun e => hd e.2)]; exact e1, e2, e3⟩
          · exact (reply_2 B p s a key rep w o hl hk x hf h hr h0 h1 hBw r).mono fun e w' ⟨e1, e2, e3⟩ => ⟨by rw [hE, hN, if_neg h1, if_neg (fun e => h0 e.1)]; exact e1, e2, e3⟩
    · refine (reply_14 B p s a key rep w o hl hk x hf h hBw r).mono fun e w' ⟨h1, h2⟩ => ⟨by unfold repN repE; rw [hf]; simp only [h, not_false_eq_true, if_true]; exact h1, ?_, Turn.of_below h2 hBw⟩
      unfold repS
      rw [hf]
      simp only [h, not_false_eq_true, if_true]
      exact r.call h2
end
end Go.Proofs.Ytgacpkbpbckgiaa
