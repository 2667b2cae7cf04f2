/-
  Exchange: walks over the chapter's own New, time, index, Result, Request, Next and Waiting. Condition: the state is one that the calls make.
-/
import Derived.Test.YtgacpkbpbckgiaaWm
namespace Go.Proofs.Ytgacpkbpbckgiaa
open Go.RowKit
set_option linter.unusedVariables false

def imR (x : Im) : List Value := [.string x.key, .string x.text, .string x.reply, .int .i64 x.at_, .int .i64 x.st]
theorem imR5 (x : Im) : (imR x).length = 5 := rfl
/-- The chapter's exchange at block p. -/
def QRep (w : World) (B p : Nat) (s : XS) : Prop :=
  B ≤ p ∧ ∃ A c, Blk w p 37 #[.int .i64 s.tmo, .int .i64 s.now, .slice A s.its.length c] ∧ rowL w B 74 5 A s.its.length c (s.its.flatMap imR)
theorem QRep.drewN {w : World} {B p : Nat} {s : XS} (h : QRep w B p s) (i : Nat) : QRep (w.drewN i) B p s := h
theorem QRep.call {w w' : World} {B p : Nat} {s : XS} (h : QRep w B p s) (hb : Below w.heap.size w w') : QRep w' B p s := by
  obtain ⟨h1, A, c, h2, h5⟩ := h
  exact ⟨h1, A, c, h2.call hb, h5.call hb⟩
theorem QRep.turnOther {w w' : World} {B B' p : Nat} {s : XS} {T : List TypeId} {m : Bool} (h : QRep w B p s) (k : Turn B' T m w w') (h1 : T.contains 37 = false) (h2 : T.contains 74 = false) : QRep w' B p s := by
  obtain ⟨hB, A0, c0, B0, hr0⟩ := h
  exact ⟨hB, A0, c0, B0.turn k h1, hr0.turn k h2⟩
theorem QRep.mono {w : World} {B B' p : Nat} {s : XS} (h : QRep w B p s) (hB : B' ≤ B) : QRep w B' p s := by
  obtain ⟨h1, A, c, h2, h3⟩ := h
  exact ⟨Nat.le_trans hB h1, A, c, h2, h3.mono hB⟩
/-- An item's cells. -/
theorem item_at {w : World} {B c : Nat} {A : Option Addr} {l : List Im} (hr : rowL w B 74 5 A l.length c (l.flatMap imR)) {i : Nat} {x : Im} (hx : l[i]? = some x) :
    ∃ g, A = some ⟨g, 0, none⟩ ∧ B ≤ g ∧ g < w.heap.size ∧ (∀ j u, (imR x)[j]? = some u → w.cell? ⟨g, i * 5 + j, none⟩ = some u) ∧ ∀ j, w.frozen? ⟨g, j, none⟩ = false := by
  have hi : i < l.length := (List.getElem?_eq_some_iff.1 hx).1
  obtain ⟨g, e, hb, hl, hc, hf⟩ := hr.cells (by omega)
  refine ⟨g, e, hb, hl, fun j u hu => hc _ _ ?_, hf⟩
  have hj : j < 5 := by
    have := (List.getElem?_eq_some_iff.1 hu).1
    simpa [imR] using this
  rw [atM imR 5 imR5 l i x j hx hj]
  exact hu
theorem qnew_ok (n : Int) (h1 : 1 ≤ n) (h2 : n ≤ 100000) (w : World) : Calls Try.prog 9 #[.int .i64 n] w fun e w' => e = .returned (.tuple #[.pointer (some ⟨w.heap.size, 0, none⟩), .int .i64 0]) ∧ QRep w' w.heap.size w.heap.size ⟨n, 0, []⟩ ∧ Below w.heap.size w w' := by
  have k1 : ¬ n < 1 := by omega
  have k2 : ¬ 100000 < n := by omega
  go_enter Try.func9, Try.ntmps9
  go_wp2
  go_ret2
  exact ⟨rfl, ⟨Nat.le_refl _, none, 0, Blk.new _ _ _, rowL.nil _ _ _ _⟩, (Below.refl _ _).alloc (Nat.le_refl _) _⟩
theorem qnew_no (n : Int) (h : n < 1 ∨ 100000 < n) (w : World) : Calls Try.prog 9 #[.int .i64 n] w fun e w' => e = .returned (.tuple #[.pointer none, .int .i64 4]) ∧ w = w' := by
  by_cases h1 : n < 1
  · clear h
    go_enter Try.func9, Try.ntmps9
    go_wp2
    go_ret2
    exact ⟨rfl, rfl⟩
  · have h2 : 100000 < n := by omega
    clear h
    go_enter Try.func9, Try.ntmps9
    go_wp2
    go_ret2
    exact ⟨rfl, rfl⟩

theorem find_at {p : Im → Bool} {l : List Im} {x : Im} (h : l.find? p = some x) : ∃ i : Nat, l[i]? = some x ∧ p x = true ∧ ∀ (m : Nat) (y : Im), m < i → l[m]? = some y → p y = false := by
  obtain ⟨hp, i, hi, e, hn⟩ := List.find?_eq_some_iff_getElem.1 h
  refine ⟨i, by rw [List.getElem?_eq_getElem hi, e], hp, fun m y hm hy => ?_⟩
  have := hn m hm
  obtain ⟨hml, e2⟩ := List.getElem?_eq_some_iff.1 hy
  rw [e2] at this
  simpa using this
theorem fnd_at {key : ByteArray} {l : List Im} {x : Im} (h : fnd key l = some x) : ∃ i : Nat, l[i]? = some x ∧ x.key = key ∧ ∀ (m : Nat) (y : Im), m < i → l[m]? = some y → y.key ≠ key := by
  obtain ⟨i, h1, h2, h3⟩ := find_at h
  exact ⟨i, h1, by simpa using h2, fun m y hm hy => by simpa using h3 m y hm hy⟩
theorem fnd_not {key : ByteArray} {l : List Im} (h : fnd key l = none) {m : Nat} {y : Im} (hy : l[m]? = some y) : y.key ≠ key := by
  intro e
  exact fnd_none h (List.mem_map.2 ⟨y, List.mem_of_getElem? hy, e⟩)

section
variable (B p : Nat) (s : XS) (w : World)
theorem qtime_any (a : Int) (r : QRep w B p s) : Calls Try.prog 31 #[.pointer (some ⟨p, 0, none⟩), .int .i64 a] w fun e w' => e = .returned (.bool (decide (okT s a))) ∧ w = w' := by
  obtain ⟨h1, A, c, B0, h7⟩ := r
  have c1 := B0.c 1 _ rfl
  clear h7 B0
  by_cases h : okT s a
  · rw [decide_eq_true h]
    obtain ⟨h1, h2⟩ := h
    go_enter Try.func31, Try.ntmps31
    go_wp2
    go_ret
    exact ⟨rfl, rfl⟩
  · rw [decide_eq_false h]
    unfold okT at h
    by_cases h1 : s.now ≤ a
    · have h2 : ¬ a ≤ 1099511627776 := by omega
      clear h
      go_enter Try.func31, Try.ntmps31
      go_wp2
      go_ret
      exact ⟨rfl, rfl⟩
    · clear h
      go_enter Try.func31, Try.ntmps31
      go_wp2
      go_ret
      exact ⟨rfl, rfl⟩
theorem qindex_some (key : ByteArray) (i : Nat) (x : Im) (hx : s.its[i]? = some x) (hk : x.key = key) (hno : ∀ (m : Nat) (y : Im), m < i → s.its[m]? = some y → y.key ≠ key) (r : QRep w B p s) :
    Calls Try.prog 32 #[.pointer (some ⟨p, 0, none⟩), .string key] w fun e w' => e = .returned (.int .i64 i) ∧ w = w' := by
  obtain ⟨hB, A, c, B0, hr⟩ := r
  have c2 := B0.c 2 _ rfl
  have hlen := hr.len
  have hi : i < s.its.length := (List.getElem?_eq_some_iff.1 hx).1
  have HR := Lib.hid hr
  have HN := Lib.hid hno
  have HX := Lib.hid (And.intro hx hk)
  clear hr hno hx hk B0
  go_enter Try.func32, Try.ntmps32
  go_wp2_with fail
  go_loopw [5] (fun j wr => ∃ k : Nat, k ≤ i ∧ j = .int .i64 k ∧ wr = w) (fun j _ => i - (intOf j).toNat)
  case atStart => exact ⟨0, by omega, rfl, rfl⟩
  case round =>
    obtain ⟨k, hk, rfl, rfl⟩ := hrel
    have hkl : k < s.its.length := by omega
    have hu : s.its[k]? = some s.its[k] := List.getElem?_eq_getElem hkl
    obtain ⟨ga, rfl, hBg, hgs, hcell, _⟩ := item_at HR.out hu
    have g0 : wr.cell? ⟨ga, k * 5, none⟩ = some (.string s.its[k].key) := by simpa using hcell 0 _ rfl
    have HU := Lib.hid hu
    clear hcell hu
    by_cases hlt : k < i
    · have HE := Lib.hid (HN.out k _ hlt HU.out)
      generalize s.its[k] = y at g0 HU HE
      have hbq : (y.key.toList == key.toList) = false := beq_eq_false_iff_ne.2 (fun h => HE.out (bytes_inj h))
      go_wp2_with fail
      go_roundw
      case rel => exact ⟨k + 1, by omega, by go_num, trivial⟩
      case measure => simp [intOf]; omega
    · have hki : k = i := by omega
      subst hki
      have e : s.its[k] = x := by
        have := HU.out.symm.trans HX.out.1
        injection this
      rw [e, HX.out.2] at g0
      clear e
      go_wp2_with fail
      go_ret
      exact ⟨rfl, rfl⟩
theorem qindex_none (key : ByteArray) (hf : fnd key s.its = none) (r : QRep w B p s) :
    Calls Try.prog 32 #[.pointer (some ⟨p, 0, none⟩), .string key] w fun e w' => e = .returned (.int .i64 (-1)) ∧ w = w' := by
  obtain ⟨hB, A, c, B0, hr⟩ := r
  have c2 := B0.c 2 _ rfl
  have hlen := hr.len
  have HR := Lib.hid hr
  have HF := Lib.hid hf
  clear hr hf B0
  go_enter Try.func32, Try.ntmps32
  go_wp2_with fail
  go_loopw [5] (fun j wr => ∃ k : Nat, k ≤ s.its.length ∧ j = .int .i64 k ∧ wr = w) (fun j _ => s.its.length - (intOf j).toNat)
  case atStart => exact ⟨0, by omega, rfl, rfl⟩
  case round =>
    obtain ⟨k, hk, rfl, rfl⟩ := hrel
    by_cases hlt : k < s.its.length
    · have hu : s.its[k]? = some s.its[k] := List.getElem?_eq_getElem hlt
      obtain ⟨ga, rfl, hBg, hgs, hcell, _⟩ := item_at HR.out hu
      have g0 : wr.cell? ⟨ga, k * 5, none⟩ = some (.string s.its[k].key) := by simpa using hcell 0 _ rfl
      have HE := Lib.hid (fnd_not HF.out hu)
      clear hcell hu
      generalize s.its[k] = y at g0 HE
      have hbq : (y.key.toList == key.toList) = false := beq_eq_false_iff_ne.2 (fun h => HE.out (bytes_inj h))
      go_wp2_with fail
      go_roundw
      case rel => exact ⟨k + 1, by omega, by go_num, trivial⟩
      case measure => simp [intOf]; omega
    · go_wp2_with fail
      go_ret
      exact ⟨rfl, rfl⟩
/-- What index answers. -/
def IdxOf (key : ByteArray) (n : Int) : Prop := (fnd key s.its = none ∧ n = -1) ∨ ∃ (i : Nat) (x : Im), n = i ∧ s.its[i]? = some x ∧ x.key = key ∧ fnd key s.its = some x
theorem qindex_any (key : ByteArray) (r : QRep w B p s) : ∃ n, IdxOf s key n ∧ Calls Try.prog 32 #[.pointer (some ⟨p, 0, none⟩), .string key] w fun e w' => e = .returned (.int .i64 n) ∧ w = w' := by
  cases hf : fnd key s.its with
  | none => exact ⟨-1, .inl ⟨hf, rfl⟩, qindex_none B p s w key hf r⟩
  | some x =>
    obtain ⟨i, h1, h2, h3⟩ := fnd_at hf
    exact ⟨i, .inr ⟨i, x, rfl, h1, h2, hf⟩, qindex_some B p s w key i x h1 h2 h3 r⟩

theorem qresult_any (key : ByteArray) (r : QRep w B p s) : Calls Try.prog 21 #[.pointer (some ⟨p, 0, none⟩), .string key] w fun e w' => e = .returned (.tuple #[.string (resV s key), .int .i64 (resE s key)]) ∧ w = w' := by
  obtain ⟨n, hn, hc⟩ := qindex_any B p s w key r
  have HC := Lib.hid hc
  obtain ⟨hB, A, c, B0, hr⟩ := r
  have c2 := B0.c 2 _ rfl
  have hlen := hr.len
  clear hc B0
  unfold resV resE
  rcases hn with ⟨hf, rfl⟩ | ⟨i, x, rfl, hx, hk, hf⟩
  · rw [hf]
    simp only
    clear hr
    go_enter Try.func21, Try.ntmps21
    go_wp2_with (go_at_call 32; refine HC.out.mono ?_; rintro e w' ⟨rfl, rfl⟩)
    go_ret2
    exact ⟨rfl, rfl⟩
  · rw [hf]
    simp only
    have hi : i < s.its.length := (List.getElem?_eq_some_iff.1 hx).1
    obtain ⟨g, rfl, _, _, hcell, _⟩ := item_at hr hx
    have d2 := hcell 2 _ rfl
    have d4 := hcell 4 _ rfl
    clear hcell hr hx hf
    generalize x.reply = rp at d2 ⊢
    generalize x.st = st at d4 ⊢
    by_cases e0 : st = 0
    · subst e0
      rw [if_neg (by decide), if_pos rfl]
      go_enter Try.func21, Try.ntmps21
      go_wp2_with (go_at_call 32; refine HC.out.mono ?_; rintro e w' ⟨rfl, rfl⟩)
      go_ret2
      exact ⟨rfl, rfl⟩
    · by_cases e1 : st = 1
      · subst e1
        rw [if_pos rfl, if_neg (by decide), if_pos rfl]
        go_enter Try.func21, Try.ntmps21
        go_wp2_with (go_at_call 32; refine HC.out.mono ?_; rintro e w' ⟨rfl, rfl⟩)
        go_ret2
        exact ⟨rfl, rfl⟩
      · rw [if_neg e1, if_neg e0, if_neg e1]
        obtain ⟨v, hv⟩ : ∃ v : Int, (st : Int) = v := ⟨_, rfl⟩
        have n0 : (v == 0) = false := by rw [beq_eq_false_iff_ne]; omega
        have n1 : (v == 1) = false := by rw [beq_eq_false_iff_ne]; omega
        rw [hv] at d4
        clear hv e0 e1
        go_enter Try.func21, Try.ntmps21
        go_wp2_with (go_at_call 32; refine HC.out.mono ?_; rintro e w' ⟨rfl, rfl⟩)
        go_ret2
        exact ⟨rfl, rfl⟩
theorem qrequest_any (key : ByteArray) (r : QRep w B p s) : Calls Try.prog 23 #[.pointer (some ⟨p, 0, none⟩), .string key] w fun e w' => e = .returned (.tuple #[.string (reqV s key), .bool (reqB s key)]) ∧ w = w' := by
  obtain ⟨n, hn, hc⟩ := qindex_any B p s w key r
  have HC := Lib.hid hc
  obtain ⟨hB, A, c, B0, hr⟩ := r
  have c2 := B0.c 2 _ rfl
  have hlen := hr.len
  clear hc B0
  unfold reqV reqB
  rcases hn with ⟨hf, rfl⟩ | ⟨i, x, rfl, hx, hk, hf⟩
  · rw [hf]
    simp only [Option.isSome_none]
    clear hr
    go_enter Try.func23, Try.ntmps23
    go_wp2_with (go_at_call 32; refine HC.out.mono ?_; rintro e w' ⟨rfl, rfl⟩)
    go_ret2
    exact ⟨rfl, rfl⟩
  · rw [hf]
    simp only [Option.isSome_some]
    have hi : i < s.its.length := (List.getElem?_eq_some_iff.1 hx).1
    obtain ⟨g, rfl, _, _, hcell, _⟩ := item_at hr hx
    have d1 := hcell 1 _ rfl
    clear hcell hr hx hf
    go_enter Try.func23, Try.ntmps23
    go_wp2_with (go_at_call 32; refine HC.out.mono ?_; rintro e w' ⟨rfl, rfl⟩)
    go_ret2
    exact ⟨rfl, rfl⟩
theorem qnext_none (hf : s.its.find? pendB = none) (r : QRep w B p s) : Calls Try.prog 25 #[.pointer (some ⟨p, 0, none⟩)] w fun e w' => e = .returned (.tuple #[.int .i64 0, .bool false]) ∧ w = w' := by
  obtain ⟨hB, A, c, B0, hr⟩ := r
  have c2 := B0.c 2 _ rfl
  have hlen := hr.len
  have HR := Lib.hid hr
  have HF := Lib.hid hf
  clear hr hf B0
  go_enter Try.func25, Try.ntmps25
  go_wp2_with fail
  go_loopw [4] (fun j wr => ∃ k : Nat, k ≤ s.its.length ∧ j = .int .i64 k ∧ wr = w) (fun j _ => s.its.length - (intOf j).toNat)
  case atStart => exact ⟨0, by omega, rfl, rfl⟩
  case round =>
    obtain ⟨k, hk, rfl, rfl⟩ := hrel
    by_cases hlt : k < s.its.length
    · have hu : s.its[k]? = some s.its[k] := List.getElem?_eq_getElem hlt
      obtain ⟨ga, rfl, hBg, hgs, hcell, _⟩ := item_at HR.out hu
      have g4 := hcell 4 _ rfl
      have hp := List.find?_eq_none.1 HF.out _ (List.mem_of_getElem? hu)
      clear hcell hu
      generalize s.its[k] = y at g4 hp
      unfold pendB at hp
      obtain ⟨v, hv⟩ : ∃ v : Int, (y.st : Int) = v := ⟨_, rfl⟩
      simp at hp
      have n0 : (v == 0) = false := by rw [beq_eq_false_iff_ne]; omega
      have n1 : (v == 2) = false := by rw [beq_eq_false_iff_ne]; omega
      rw [hv] at g4
      clear hv hp
      go_wp2_with fail
      go_roundw
      case rel => exact ⟨k + 1, by omega, by go_num, trivial⟩
      case measure => simp [intOf]; omega
    · go_wp2_with fail
      go_ret2
      exact ⟨rfl, rfl⟩
theorem qnext_some (o : s.Ok) (x : Im) (hf : s.its.find? pendB = some x) (r : QRep w B p s) : Calls Try.prog 25 #[.pointer (some ⟨p, 0, none⟩)] w fun e w' => e = .returned (.tuple #[.int .i64 (x.at_ + s.tmo), .bool true]) ∧ Below w.heap.size w w' := by
  obtain ⟨i, hx, hpx, hno⟩ := find_at hf
  obtain ⟨hB, A, c, B0, hr⟩ := r
  have c2 := B0.c 2 _ rfl
  have hlen := hr.len
  have hi : i < s.its.length := (List.getElem?_eq_some_iff.1 hx).1
  have hat := o.at_ x (List.mem_of_getElem? hx)
  have ht1 := o.t1
  have ht2 := o.t2
  have hn2 := o.n2
  have b1 : -9223372036854775808 ≤ x.at_ + s.tmo := by omega
  have b2 : x.at_ + s.tmo ≤ 9223372036854775807 := by omega
  have HR := Lib.hid hr
  have HN := Lib.hid hno
  have HX := Lib.hid hx
  have HP := Lib.hid hpx
  have HB0 := Lib.hid B0
  clear hr hno hx hpx B0 hat ht1 ht2 hn2 o hf
  go_enter Try.func25, Try.ntmps25
  go_wp2_with fail
  go_loopw [4] (fun j wr => ∃ k : Nat, k ≤ i ∧ j = .int .i64 k ∧ wr = w) (fun j _ => i - (intOf j).toNat)
  case atStart => exact ⟨0, by omega, rfl, rfl⟩
  case round =>
    obtain ⟨k, hk, rfl, rfl⟩ := hrel
    have hkl : k < s.its.length := by omega
    have hu : s.its[k]? = some s.its[k] := List.getElem?_eq_getElem hkl
    obtain ⟨ga, rfl, hBg, hgs, hcell, _⟩ := item_at HR.out hu
    have HU := Lib.hid hu
    have g3 := hcell 3 _ rfl
    have g4 := hcell 4 _ rfl
    clear hcell hu
    by_cases hlt : k < i
    · have hp := HN.out k _ hlt HU.out
      clear g3
      generalize s.its[k] = y at g4 hp HU
      unfold pendB at hp
      obtain ⟨v, hv⟩ : ∃ v : Int, (y.st : Int) = v := ⟨_, rfl⟩
      simp at hp
      have n0 : (v == 0) = false := by rw [beq_eq_false_iff_ne]; omega
      have n1 : (v == 2) = false := by rw [beq_eq_false_iff_ne]; omega
      rw [hv] at g4
      clear hv hp
      go_wp2_with fail
      go_roundw
      case rel => exact ⟨k + 1, by omega, by go_num, trivial⟩
      case measure => simp [intOf]; omega
    · have hki : k = i := by omega
      subst hki
      have e : s.its[k] = x := by
        have := HU.out.symm.trans HX.out
        injection this
      rw [e] at g3 g4
      have L1 := fun n : Cls (UpC wr) => (HB0.out.call n.2).c 2 _ rfl
      have L2 := fun n : Cls (UpC wr) => (HB0.out.call n.2).c 0 _ rfl
      have L3 := fun n : Cls (UpC wr) => (Below.cell n.2 (p := ⟨ga, k * 5 + 3, none⟩) hgs).trans g3
      have hp := HP.out
      unfold pendB at hp
      have hp2 : x.st = 0 ∨ x.st = 2 := by simpa using hp
      clear e HU HX HP hp
      generalize x.st = st at g4 hp2
      obtain ⟨at0, hat0⟩ : ∃ a, x.at_ = a := ⟨_, rfl⟩
      have HA := Lib.hid hat0
      rw [hat0] at L3 b1 b2 g3
      clear hat0
      rcases hp2 with rfl | rfl
      · go_wp2_with fail
        rename_i K0 hKK
        refine wp_region_reg (UpC wr) 15 rfl (by kernel_rfl) ?_
        have T : UpC wr wr.drew := (Below.refl _ _).drew
        haveI : Nonempty (Cls (UpC wr)) := ⟨⟨_, T⟩⟩
        refine reg_seg (f := 0) (by kernel_rfl) [0, 1, 2, 3, 4, 5, 6, 7, 8, 9, 10, 11, 12, 13, 14] _ _ _ T (by kernel_rfl) ?_
        simp only [pickL, List.filterMap_cons, List.filterMap_nil, List.getElem?_toArray, List.getElem?_cons_zero, List.getElem?_cons_succ]
        show wpQuiet _ _ _ _ [_, _, _, _, _, _, _, _, _, _, _, _, _, _, _] _
        repeat (go_big_quiet_step (fail))
        refine wpQuiet_nil ?_
        refine reg_end (by kernel_rfl) ?_
        refine hKK _ _ ?_
        clear L1 L2 L3
        go_wp2_with fail
        go_ret2
        exact ⟨by rw [HA.out]; rfl, T⟩
      · go_wp2_with fail
        rename_i K0 hKK
        refine wp_region_reg (UpC wr) 15 rfl (by kernel_rfl) ?_
        have T : UpC wr wr.drew := (Below.refl _ _).drew
        haveI : Nonempty (Cls (UpC wr)) := ⟨⟨_, T⟩⟩
        refine reg_seg (f := 0) (by kernel_rfl) [0, 1, 2, 3, 4, 5, 6, 7, 8, 9, 10, 11, 12, 13, 14] _ _ _ T (by kernel_rfl) ?_
        simp only [pickL, List.filterMap_cons, List.filterMap_nil, List.getElem?_toArray, List.getElem?_cons_zero, List.getElem?_cons_succ]
        show wpQuiet _ _ _ _ [_, _, _, _, _, _, _, _, _, _, _, _, _, _, _] _
        repeat (go_big_quiet_step (fail))
        refine wpQuiet_nil ?_
        refine reg_end (by kernel_rfl) ?_
        refine hKK _ _ ?_
        clear L1 L2 L3
        go_wp2_with fail
        go_ret2
        exact ⟨by rw [HA.out]; rfl, T⟩
theorem qnext_any (o : s.Ok) (r : QRep w B p s) : Calls Try.prog 25 #[.pointer (some ⟨p, 0, none⟩)] w fun e w' => e = .returned (.tuple #[.int .i64 (nexN s), .bool (nexB s)]) ∧ Below w.heap.size w w' := by
  unfold nexN nexB
  cases h : s.its.find? pendB with
  | none => exact (qnext_none B p s w h r).mono (fun e w' ⟨h1, h2⟩ => ⟨h1, h2 ▸ Below.refl _ _⟩)
  | some x => exact qnext_some B p s w o x h r
theorem waiL_take {l : List Im} {k : Nat} {x : Im} (h : l[k]? = some x) : waiL (l.take (k + 1)) = waiL (l.take k) ++ if waitB x then [x.key] else [] := by
  unfold waiL
  rw [List.take_add_one, h, List.filter_append, List.map_append]
  cases hw : waitB x <;> simp [hw]
theorem qwaiting_any (hl : s.its.length ≤ 100000) (r : QRep w B p s) : Calls Try.prog 27 #[.pointer (some ⟨p, 0, none⟩)] w fun e w' => ∃ A2 c2, e = .returned (.slice A2 (waiL s.its).length c2) ∧ rowL w' w.heap.size 9 1 A2 (waiL s.its).length c2 ((waiL s.its).map Value.string) ∧ Below w.heap.size w w' := by
  obtain ⟨hB, A, c, B0, hr⟩ := r
  have hlen := hr.len
  have HR := Lib.hid hr
  have HB0 := Lib.hid B0
  clear hr B0
  go_enter Try.func27, Try.ntmps27
  go_wp2_with fail
  go_loopw [3, 4] (fun o j wr => ∃ (k : Nat) (A2 : Option Addr) (c2 : Nat), k ≤ s.its.length ∧ j = .int .i64 k ∧ o = .slice A2 (waiL (s.its.take k)).length c2 ∧ rowL wr w.heap.size 9 1 A2 (waiL (s.its.take k)).length c2 ((waiL (s.its.take k)).map Value.string) ∧ Below w.heap.size w wr) (fun _ j _ => s.its.length - (intOf j).toNat)
  case atStart => exact ⟨0, none, 0, by omega, rfl, rfl, rowL.nil _ _ _ _, Below.refl _ _⟩
  case round =>
    obtain ⟨k, A2, c2', hk, rfl, rfl, hrow, hb⟩ := hrel
    have HI := Lib.hid hrow
    have HBl := Lib.hid hb
    have zb := hb.size
    clear hrow hb
    have c2 := (HB0.out.call HBl.out).c 2 _ rfl
    by_cases hlt : k < s.its.length
    · have hu : s.its[k]? = some s.its[k] := List.getElem?_eq_getElem hlt
      obtain ⟨ga, rfl, hBg, hgs, hcell, _⟩ := item_at (HR.out.call HBl.out) hu
      have g0 : wr.cell? ⟨ga, k * 5, none⟩ = some (.string s.its[k].key) := by simpa using hcell 0 _ rfl
      have g4 := hcell 4 _ rfl
      have HT := Lib.hid (waiL_take hu)
      have hll : (waiL (s.its.take k)).length ≤ 100000 := by
        have h1 : (waiL (s.its.take k)).length ≤ (s.its.take k).length := by
          unfold waiL
          rw [List.length_map]
          exact List.length_filter_le _ _
        rw [List.length_take] at h1
        omega
      clear hcell hu
      generalize s.its[k] = y at g0 g4 HT
      obtain ⟨L, hL⟩ : ∃ L, waiL (s.its.take k) = L := ⟨_, rfl⟩
      rw [hL] at HI HT hll ⊢
      clear hL
      by_cases h0 : y.st = 0
      · have hw : waitB y = true := by unfold waitB; simp [h0]
        rw [hw, if_pos rfl] at HT
        rw [h0] at g4
        clear hw h0
        generalize y.key = yk at g0 HT
        go_wp2_with
          (at_builtin
           go_must (refine wpList_appL strE _ _ rfl rfl (m := 1) (c' := 1) (ys := [Value.string yk]) rfl rfl (HI.out.alloc (.cells #[.string yk] 9)) (RDn.of_box (Blk.new wr 9 #[.string yk])) (str_one yk) (by unfold maxLen; omega) (by omega) (by simp; omega) ?_)
           intro A3 c3 w3 hr3 hg3 hor
           have I3 := Lib.hid hr3
           have b3 := Lib.hid (below_grownL (HBl.out.alloc zb (.cells #[.string yk] 9)) (HI.out.alloc (.cells #[.string yk] 9)) (Nat.le_refl _) (by simp; omega) hg3)
           clear hr3 hg3 hor)
        go_roundw
        case rel =>
          refine ⟨k + 1, A3, c3, by omega, by go_num, by rw [HT.out, List.length_append]; rfl, ?_, b3.out⟩
          rw [HT.out, List.length_append, List.map_append]
          exact I3.out
        case measure => simp [intOf]; omega
      · have hw : waitB y = false := by unfold waitB; simp [h0]
        rw [hw, if_neg (by decide), List.append_nil] at HT
        obtain ⟨v, hv⟩ : ∃ v : Int, (y.st : Int) = v := ⟨_, rfl⟩
        have n0 : (v == 0) = false := by rw [beq_eq_false_iff_ne]; omega
        rw [hv] at g4
        clear hw h0 hv
        go_wp2_with fail
        go_roundw
        case rel => exact ⟨k + 1, A2, c2', by omega, by go_num, by rw [HT.out], by rw [HT.out]; exact HI.out, HBl.out⟩
        case measure => simp [intOf]; omega
    · have hkl : k = s.its.length := by omega
      subst hkl
      rw [List.take_length] at HI ⊢
      go_wp2_with fail
      go_ret
      exact ⟨A2, c2', rfl, HI.out, HBl.out⟩
end
end Go.Proofs.Ytgacpkbpbckgiaa
