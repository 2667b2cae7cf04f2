/-
  Exchange: walks over New, possible, is, Result, Request and Waiting. Condition: the state is one that the calls make.
-/
import Derived.Test.YtgacpkbpbckgiaaPa
namespace Go.Proofs.Ytgacpkbpbckgiaa
open Go.RowKit
set_option linter.unusedVariables false

def oc (n : Nat) : Int := if n = 0 then 0 else if n = 1 then 1 else 2
def imC (t : Int) (x : Im) : Array Value := #[.string x.key, .string x.text, .string x.reply, .int .i64 (x.at_ + t), .int .i64 (oc x.st)]
def ptrZ (z : Nat × Im) : Value := .pointer (some ⟨z.1, 0, none⟩)
def pnd (zs : List (Nat × Im)) : List (Nat × Im) := zs.filter fun z => pendB z.2
def lookZ (zs : List (Nat × Im)) : List UInt8 → Option Value := fun k => (zs.find? fun z => decide (z.2.key.data.toList = k)).map ptrZ
/-- The requests' blocks. -/
def ZOk (w : World) (B : Nat) (t : Int) (zs : List (Nat × Im)) : Prop := (zs.map Prod.fst).Nodup ∧ ∀ z ∈ zs, B ≤ z.1 ∧ Blk w z.1 76 (imC t z.2)
/-- The program's exchange at block p. -/
def PRep (w : World) (B p : Nat) (s : XS) : Prop :=
  B ≤ p ∧ ∃ mb zs A c, Blk w p 67 #[.int .i64 s.tmo, .int .i64 s.now, .map (some mb), .slice A (pnd zs).length c] ∧ B ≤ mb ∧ HM Try.prog 9 w mb zs.length (lookZ zs) ∧ zs.map Prod.snd = s.its ∧ ZOk w B s.tmo zs ∧ rowL w B 69 1 A (pnd zs).length c ((pnd zs).map ptrZ)
theorem ZOk.keep {w w' : World} {B : Nat} {t : Int} {zs : List (Nat × Im)} (h : ZOk w B t zs) (k : ∀ g cs, Blk w g 76 cs → Blk w' g 76 cs) : ZOk w' B t zs := ⟨h.1, fun z hz => ⟨(h.2 z hz).1, k _ _ (h.2 z hz).2⟩⟩
theorem PRep.drewN {w : World} {B p : Nat} {s : XS} (h : PRep w B p s) (i : Nat) : PRep (w.drewN i) B p s := h
theorem PRep.call {w w' : World} {B p : Nat} {s : XS} (h : PRep w B p s) (hb : Below w.heap.size w w') : PRep w' B p s := by
  obtain ⟨h1, mb, zs, A, c, h2, h3, h4, h5, h6, h7⟩ := h
  exact ⟨h1, mb, zs, A, c, h2.call hb, h3, h4.call hb, h5, h6.keep (fun _ _ b => b.call hb), h7.call hb⟩
theorem PRep.turnOther {w w' : World} {B B' p : Nat} {s : XS} {T : List TypeId} (h : PRep w B p s) (k : Turn B' T false w w') (e1 : T.contains 67 = false) (e2 : T.contains 76 = false) (e3 : T.contains 69 = false) : PRep w' B p s := by
  obtain ⟨h1, mb, zs, A, c, h2, h3, h4, h5, h6, h7⟩ := h
  exact ⟨h1, mb, zs, A, c, h2.turn k e1, h3, h4.turn k, h5, h6.keep (fun _ _ b => b.turn k e2), h7.turn k e3⟩

theorem zero69 (w : World) : (zeroValue 69).run Try.prog w = .ok (.pointer none) w := by kernel_rfl
theorem eqlSome (bm : Nat) (w : World) : (binOp .eql 64 (.map (some bm)) (.map none)).run Try.prog w = .ok (.bool false) w := by kernel_rfl
theorem makeF : ∀ (fn : Fn) (first cap : Array Value) (w : World), (Instr.makeFunc fn first cap).run Try.prog w = .ok (.func fn first cap) w := fun _ _ _ _ => rfl
/-- What a lookup finds. -/
theorem look_run {w : World} {mb n : Nat} {zs : List (Nat × Im)} (h : HM Try.prog 9 w mb n (lookZ zs)) {s : ByteArray} (hs : s.size ≤ maxLen) :
    (Instr.lookup 64 (.map (some mb)) (.string s) true).run Try.prog w = .ok (.tuple #[((zs.find? fun z => decide (z.2.key.data.toList = s.data.toList)).map ptrZ).getD (.pointer none), .bool (zs.find? fun z => decide (z.2.key.data.toList = s.data.toList)).isSome]) w := by
  have := h.look Try.underlying9 Try.underlying64 (zero69 w) hs
  rw [this]
  unfold lookZ
  cases zs.find? fun z => decide (z.2.key.data.toList = s.data.toList) <;> rfl
theorem find_zs {key : ByteArray} : ∀ {zs : List (Nat × Im)}, (zs.find? fun z => decide (z.2.key.data.toList = key.data.toList)).map Prod.snd = fnd key (zs.map Prod.snd)
  | [] => rfl
  | z :: zs => by
    have hk : (z.2.key.data.toList = key.data.toList) ↔ z.2.key = key := ⟨fun e => ByteArray.ext (Array.toList_inj.1 e), fun e => by rw [e]⟩
    unfold fnd
    rw [List.map_cons, List.find?_cons, List.find?_cons]
    by_cases e : z.2.key = key
    · rw [decide_eq_true e, decide_eq_true (hk.2 e)]
      rfl
    · rw [decide_eq_false e, decide_eq_false (fun h => e (hk.1 h))]
      exact find_zs
/-- A key that is not there; one that is. -/
theorem look_none {w : World} {mb n : Nat} {zs : List (Nat × Im)} (h : HM Try.prog 9 w mb n (lookZ zs)) {s : ByteArray} (hs : s.size ≤ maxLen) (hf : fnd s (zs.map Prod.snd) = none) :
    (Instr.lookup 64 (.map (some mb)) (.string s) true).run Try.prog w = .ok (.tuple #[.pointer none, .bool false]) w := by
  rw [look_run h hs]
  rw [← find_zs] at hf
  cases e : zs.find? fun z => decide (z.2.key.data.toList = s.data.toList) with
  | none => rfl
  | some z => rw [e] at hf; cases hf
theorem look_some {w : World} {mb n : Nat} {zs : List (Nat × Im)} (h : HM Try.prog 9 w mb n (lookZ zs)) {s : ByteArray} (hs : s.size ≤ maxLen) {x : Im} (hf : fnd s (zs.map Prod.snd) = some x) :
    ∃ g, (g, x) ∈ zs ∧ (Instr.lookup 64 (.map (some mb)) (.string s) true).run Try.prog w = .ok (.tuple #[.pointer (some ⟨g, 0, none⟩), .bool true]) w := by
  rw [look_run h hs]
  rw [← find_zs] at hf
  cases e : zs.find? fun z => decide (z.2.key.data.toList = s.data.toList) with
  | none => rw [e] at hf; cases hf
  | some z =>
    rw [e] at hf
    injection hf with hf
    subst hf
    exact ⟨z.1, List.mem_of_find?_eq_some e, rfl⟩

theorem new_no (t : Int) (h : t < 1 ∨ 100000 < t) (w : World) : Calls Try.prog 8 #[.int .i64 t] w fun e w' => e = .returned (.tuple #[.pointer none, .int .i64 4]) ∧ w = w' := by
  by_cases h1 : t < 1
  · clear h
    go_enter Try.func8, Try.ntmps8
    go_wp2
    go_ret2
    exact ⟨rfl, rfl⟩
  · have h2 : 100000 < t := by omega
    clear h
    go_enter Try.func8, Try.ntmps8
    go_wp2
    go_ret2
    exact ⟨rfl, rfl⟩
theorem new_ok (n : Int) (h1 : 1 ≤ n) (h2 : n ≤ 100000) (w : World) : Calls Try.prog 8 #[.int .i64 n] w fun e w' => ∃ p, e = .returned (.tuple #[.pointer (some ⟨p, 0, none⟩), .int .i64 0]) ∧ PRep w' w.heap.size p ⟨n, 0, []⟩ ∧ Below w.heap.size w w' := by
  have k1 : ¬ n < 1 := by omega
  have k2 : ¬ 100000 < n := by omega
  have hmk := @run_makeMap Try.prog
  have B1 := new1 w (.map #[] 0) 67 #[.int .i64 n, .int .i64 0, .map (some w.heap.size), .slice none 0 0]
  go_enter Try.func8, Try.ntmps8
  go_wp2
  go_ret2
  refine ⟨_, rfl, ⟨by simp, _, [], none, 0, B1, Nat.le_refl _, ?_, rfl, ⟨List.nodup_nil, by simp⟩, rowL.nil _ _ _ _⟩, ((Below.refl _ _).alloc (Nat.le_refl _) _).alloc (by simp) _⟩
  exact ((HM.made Try.prog 9 w).alloc _)

section
variable (B p : Nat) (s : XS) (w : World)
theorem possible_any (a : Int) (r : PRep w B p s) : Calls Try.prog 29 #[.pointer (some ⟨p, 0, none⟩), .int .i64 a] w fun e w' => e = .returned (.bool (decide (okT s a))) ∧ w = w' := by
  obtain ⟨h1, mb, zs, A, c, B0, h3, h4, h5, h6, h7⟩ := r
  have c1 := B0.c 1 _ rfl
  clear h3 h4 h5 h6 h7 B0
  by_cases h : okT s a
  · rw [decide_eq_true h]
    obtain ⟨h1, h2⟩ := h
    go_enter Try.func29, Try.ntmps29
    go_wp2
    go_ret
    exact ⟨rfl, rfl⟩
  · rw [decide_eq_false h]
    unfold okT at h
    by_cases h1 : s.now ≤ a
    · have h2 : ¬ a ≤ 1099511627776 := by omega
      clear h
      go_enter Try.func29, Try.ntmps29
      go_wp2
      go_ret
      exact ⟨rfl, rfl⟩
    · clear h
      go_enter Try.func29, Try.ntmps29
      go_wp2
      go_ret
      exact ⟨rfl, rfl⟩
theorem is_any (g : Nat) (v n : Int) (h : w.cell? ⟨g, 4, none⟩ = some (.int .i64 v)) : Calls Try.prog 33 #[.pointer (some ⟨g, 0, none⟩), .int .i64 n] w fun e w' => e = .returned (.bool (decide (v = n))) ∧ w = w' := by
  by_cases e : v = n
  · rw [decide_eq_true e]
    subst e
    go_enter Try.func33, Try.ntmps33
    go_wp2
    go_ret
    exact ⟨rfl, rfl⟩
  · rw [decide_eq_false e]
    have e2 : (v == n) = false := by simpa using e
    go_enter Try.func33, Try.ntmps33
    go_wp2
    go_ret
    exact ⟨rfl, rfl⟩
theorem result_none (key : ByteArray) (hk : key.size ≤ 9223372036854775807) (hf : fnd key s.its = none) (r : PRep w B p s) : Calls Try.prog 20 #[.pointer (some ⟨p, 0, none⟩), .string key] w fun e w' => e = .returned (.tuple #[.string ⟨#[]⟩, .int .i64 6]) ∧ w = w' := by
  obtain ⟨h1, mb, zs, A, c, B0, h3, h4, h5, h6, h7⟩ := r
  have c2 := B0.c 2 _ rfl
  have hl := look_none h4 hk (by rw [h5]; exact hf)
  clear h3 h4 h5 h6 h7 B0
  go_enter Try.func20, Try.ntmps20
  go_wp2
  go_ret2
  exact ⟨rfl, rfl⟩
theorem result_0 (key : ByteArray) (hk : key.size ≤ 9223372036854775807) (x : Im) (hf : fnd key s.its = some x) (e0 : x.st = 0) (r : PRep w B p s) :
    Calls Try.prog 20 #[.pointer (some ⟨p, 0, none⟩), .string key] w fun e w' => e = .returned (.tuple #[.string ⟨#[]⟩, .int .i64 8]) ∧ w = w' := by
  obtain ⟨h1, mb, zs, A, c, B0, h3, h4, h5, h6, h7⟩ := r
  have c2 := B0.c 2 _ rfl
  obtain ⟨g, hg, hl⟩ := look_some h4 hk (x := x) (by rw [h5]; exact hf)
  have BG := (h6.2 _ hg).2
  have d2 : w.cell? ⟨g, 2, none⟩ = some (.string x.reply) := BG.c 2 _ rfl
  have d4 : w.cell? ⟨g, 4, none⟩ = some (.int .i64 (oc x.st)) := BG.c 4 _ rfl
  have hmf := makeF
  clear h3 h4 h5 h6 h7 B0 BG hg hf
  have HI := fun n => is_any w g (oc x.st) n d4
  have HI0 := HI 0
  rw [e0] at HI0
  rw [show decide (oc 0 = 0) = true from rfl] at HI0
  have HX := Lib.hid HI0
  clear HI HI0 e0 d4
  go_enter Try.func20, Try.ntmps20
  go_wp2_with (go_at_call 33; refine HX.out.mono ?_; rintro e w' ⟨rfl, rfl⟩)
  go_ret2
  exact ⟨rfl, rfl⟩
theorem result_1 (key : ByteArray) (hk : key.size ≤ 9223372036854775807) (x : Im) (hf : fnd key s.its = some x) (e1 : x.st = 1) (r : PRep w B p s) :
    Calls Try.prog 20 #[.pointer (some ⟨p, 0, none⟩), .string key] w fun e w' => e = .returned (.tuple #[.string x.reply, .int .i64 0]) ∧ w = w' := by
  obtain ⟨h1, mb, zs, A, c, B0, h3, h4, h5, h6, h7⟩ := r
  have c2 := B0.c 2 _ rfl
  obtain ⟨g, hg, hl⟩ := look_some h4 hk (x := x) (by rw [h5]; exact hf)
  have BG := (h6.2 _ hg).2
  have d2 : w.cell? ⟨g, 2, none⟩ = some (.string x.reply) := BG.c 2 _ rfl
  have d4 : w.cell? ⟨g, 4, none⟩ = some (.int .i64 (oc x.st)) := BG.c 4 _ rfl
  have hmf := makeF
  clear h3 h4 h5 h6 h7 B0 BG hg hf
  have HI := fun n => is_any w g (oc x.st) n d4
  have HI0 := HI 0
  have HI2 := HI 2
  rw [e1] at HI0 HI2
  rw [show decide (oc 1 = 0) = false from rfl] at HI0
  rw [show decide (oc 1 = 2) = false from rfl] at HI2
  have HX := Lib.hid HI0
  have HY := Lib.hid HI2
  clear HI HI0 HI2 e1 d4
  go_enter Try.func20, Try.ntmps20
  go_wp2_with (first | (go_at_call 33; have hx := HX; refine hx.out.mono ?_; rintro e w' ⟨rfl, rfl⟩; clear HX hx) | (go_at_call 33; refine HY.out.mono ?_; rintro e w' ⟨rfl, rfl⟩))
  go_ret2
  exact ⟨rfl, rfl⟩
theorem result_2 (key : ByteArray) (hk : key.size ≤ 9223372036854775807) (x : Im) (hf : fnd key s.its = some x) (e0 : ¬ x.st = 0) (e1 : ¬ x.st = 1) (r : PRep w B p s) :
    Calls Try.prog 20 #[.pointer (some ⟨p, 0, none⟩), .string key] w fun e w' => e = .returned (.tuple #[.string ⟨#[]⟩, .int .i64 14]) ∧ w = w' := by
  obtain ⟨h1, mb, zs, A, c, B0, h3, h4, h5, h6, h7⟩ := r
  have c2 := B0.c 2 _ rfl
  obtain ⟨g, hg, hl⟩ := look_some h4 hk (x := x) (by rw [h5]; exact hf)
  have BG := (h6.2 _ hg).2
  have d2 : w.cell? ⟨g, 2, none⟩ = some (.string x.reply) := BG.c 2 _ rfl
  have d4 : w.cell? ⟨g, 4, none⟩ = some (.int .i64 (oc x.st)) := BG.c 4 _ rfl
  have hmf := makeF
  clear h3 h4 h5 h6 h7 B0 BG hg hf
  have HI := fun n => is_any w g (oc x.st) n d4
  have ho : oc x.st = 2 := by unfold oc; rw [if_neg e0, if_neg e1]
  have HI0 := HI 0
  have HI2 := HI 2
  rw [ho] at HI0 HI2
  rw [show decide ((2 : Int) = 0) = false from rfl] at HI0
  rw [show decide ((2 : Int) = 2) = true from rfl] at HI2
  have HX := Lib.hid HI0
  have HY := Lib.hid HI2
  clear HI HI0 HI2 e0 e1 d4 ho
  go_enter Try.func20, Try.ntmps20
  go_wp2_with (first | (go_at_call 33; have hx := HX; refine hx.out.mono ?_; rintro e w' ⟨rfl, rfl⟩; clear HX hx) | (go_at_call 33; refine HY.out.mono ?_; rintro e w' ⟨rfl, rfl⟩))
  go_ret2
  exact ⟨rfl, rfl⟩
theorem result_some (key : ByteArray) (hk : key.size ≤ 9223372036854775807) (x : Im) (hf : fnd key s.its = some x) (r : PRep w B p s) :
    Calls Try.prog 20 #[.pointer (some ⟨p, 0, none⟩), .string key] w fun e w' => e = .returned (.tuple #[.string (if x.st = 1 then x.reply else ⟨#[]⟩), .int .i64 (if x.st = 0 then 8 else if x.st = 1 then 0 else 14)]) ∧ w = w' := by
  by_cases e0 : x.st = 0
  · have e1 : ¬ x.st = 1 := by omega
    rw [if_neg e1, if_pos e0]
    exact result_0 B p s w key hk x hf e0 r
  · by_cases e1 : x.st = 1
    · rw [if_pos e1, if_neg e0, if_pos e1]
      exact result_1 B p s w key hk x hf e1 r
    · rw [if_neg e1, if_neg e0, if_neg e1]
      exact result_2 B p s w key hk x hf e0 e1 r
theorem result_any (key : ByteArray) (hk : key.size ≤ 9223372036854775807) (r : PRep w B p s) : Calls Try.prog 20 #[.pointer (some ⟨p, 0, none⟩), .string key] w fun e w' => e = .returned (.tuple #[.string (resV s key), .int .i64 (resE s key)]) ∧ w = w' := by
  unfold resV resE
  cases h : fnd key s.its with
  | none => exact result_none B p s w key hk h r
  | some x => exact result_some B p s w key hk x h r
theorem request_none (key : ByteArray) (hk : key.size ≤ 9223372036854775807) (hf : fnd key s.its = none) (r : PRep w B p s) : Calls Try.prog 22 #[.pointer (some ⟨p, 0, none⟩), .string key] w fun e w' => e = .returned (.tuple #[.string ⟨#[]⟩, .bool false]) ∧ w = w' := by
  obtain ⟨h1, mb, zs, A, c, B0, h3, h4, h5, h6, h7⟩ := r
  have c2 := B0.c 2 _ rfl
  have hl := look_none h4 hk (by rw [h5]; exact hf)
  clear h3 h4 h5 h6 h7 B0
  go_enter Try.func22, Try.ntmps22
  go_wp2
  go_ret2
  exact ⟨rfl, rfl⟩
theorem request_any (key : ByteArray) (hk : key.size ≤ 9223372036854775807) (r : PRep w B p s) : Calls Try.prog 22 #[.pointer (some ⟨p, 0, none⟩), .string key] w fun e w' => e = .returned (.tuple #[.string (reqV s key), .bool (reqB s key)]) ∧ w = w' := by
  unfold reqV reqB
  cases h : fnd key s.its with
  | none => exact request_none B p s w key hk h r
  | some x =>
    obtain ⟨h1, mb, zs, A, c, B0, h3, h4, h5, h6, h7⟩ := r
    have c2 := B0.c 2 _ rfl
    obtain ⟨g, hg, hl⟩ := look_some h4 hk (x := x) (by rw [h5]; exact h)
    have BG := (h6.2 _ hg).2
    have d1 := BG.c 1 _ rfl
    clear h3 h4 h5 h6 h7 B0 BG hg h
    go_enter Try.func22, Try.ntmps22
    go_wp2
    go_ret2
    exact ⟨rfl, rfl⟩
end
end Go.Proofs.Ytgacpkbpbckgiaa
