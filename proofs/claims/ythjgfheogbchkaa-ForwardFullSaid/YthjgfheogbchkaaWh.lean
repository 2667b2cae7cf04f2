/-
  Forward: walk over the law ForwardFull. Condition: a time from 0 to 255.
-/
import Derived.Test.YthjgfheogbchkaaWg
import Derived.Laws.IdiomStrings
namespace Go.Proofs.Ythjgfheogbchkaa
open Go.RowKit
set_option linter.unusedVariables false

def dg (n : Nat) : UInt8 := UInt8.ofNat (48 + n)
def keyL (i : Nat) : List UInt8 := [107, dg (i / 100), dg (i / 10 % 10), dg (i % 10)]
def keyB (i : Nat) : ByteArray := ⟨(keyL i).toArray⟩
theorem dg_nat {n : Nat} (h : n < 10) : ((dg n).toNat : Int) = 48 + n := by
  unfold dg
  rw [UInt8.toNat_ofNat']
  omega
theorem dg_inj {a b : Nat} (ha : a < 10) (hb : b < 10) (h : dg a = dg b) : a = b := by
  have h1 := dg_nat ha
  have h2 := dg_nat hb
  rw [h, h2] at h1
  omega
theorem keyL_inj {i j : Nat} (hi : i < 1000) (hj : j < 1000) (h : keyL i = keyL j) : i = j := by
  unfold keyL at h
  simp at h
  obtain ⟨h1, h2, h3⟩ := h
  have := dg_inj (by omega) (by omega) h1
  have := dg_inj (by omega) (by omega) h2
  have := dg_inj (by omega) (by omega) h3
  omega

theorem key_any (i : Nat) (hi : i < 1000) (w : World) : Calls Try.prog 8 #[.int .i64 i] w fun e w' => e = .returned (.string (keyB i)) ∧ Below w.heap.size w w' := by
  have B0 := Blk.new w 5 #[.int .u8 107, .int .u8 (48 + (i : Int) / 100), .int .u8 (48 + (i : Int) / 10 % 10), .int .u8 (48 + (i : Int) % 10)]
  have hcv : (convert 35 9 (.slice (some ⟨w.heap.size, 0, none⟩) 4 4)).run Try.prog (w.alloc (.cells #[.int .u8 107, .int .u8 (48 + (i : Int) / 100), .int .u8 (48 + (i : Int) / 10 % 10), .int .u8 (48 + (i : Int) % 10)] 5)) = .ok (.string (keyB i)) (w.alloc (.cells #[.int .u8 107, .int .u8 (48 + (i : Int) / 100), .int .u8 (48 + (i : Int) / 10 % 10), .int .u8 (48 + (i : Int) % 10)] 5)) := by
    have h := run_convert_bytes_back (P := Try.prog) (w.alloc (.cells #[.int .u8 107, .int .u8 (48 + (i : Int) / 100), .int .u8 (48 + (i : Int) / 10 % 10), .int .u8 (48 + (i : Int) % 10)] 5)) 35 9 5 ⟨w.heap.size, 0, none⟩ 4 (keyL i) Try.underlying35 Try.underlying5 Try.underlying9 (fun j hj => by
      rw [Addr.add_lit, Nat.zero_add]
      refine B0.c j _ ?_
      have d1 := dg_nat (n := i / 100) (by omega)
      have d2 := dg_nat (n := i / 10 % 10) (by omega)
      have d3 := dg_nat (n := i % 10) (by omega)
      match j, hj with
      | 0, _ => rfl
      | 1, _ => show some _ = some (Value.int .u8 ((dg (i / 100)).toNat : Int)); rw [d1]; rfl
      | 2, _ => show some _ = some (Value.int .u8 ((dg (i / 10 % 10)).toNat : Int)); rw [d2]; rfl
      | 3, _ => show some _ = some (Value.int .u8 ((dg (i % 10)).toNat : Int)); rw [d3]; rfl
      | j + 4, h => simp [keyL] at h; omega)
    exact h
  clear B0
  go_enter Try.func8, Try.ntmps8
  go_wp2
  go_ret
  exact ⟨rfl, (Below.refl _ _).alloc (Nat.le_refl _) _⟩

/-! ### The queue with n keys -/
def KF (a : Int) (n : Nat) : FQ := ⟨1, ((List.range n).map keyL).reverse, (List.range n).map fun i => ⟨keyB i, ke, a, 0⟩⟩
abbrev km : ByteArray := ⟨#[109, 111, 114, 101]⟩
theorem keyB_data (i : Nat) : (keyB i).data.toList = keyL i := by simp [keyB]
theorem keyB_ok (a : Int) (ha : 0 ≤ a ∧ a ≤ 255) (i : Nat) : PutOk a (keyB i) ke := ⟨by simp [keyB, keyL, ByteArray.size], by simp [keyB, keyL, ByteArray.size], by decide, ha.1, by omega⟩
theorem KF_len (a : Int) (n : Nat) : (KF a n).ws.length = n := by simp [KF]
theorem KF_kn (a : Int) (n : Nat) : (KF a n).kn.length = n := by simp [KF]
theorem KF_succ (a : Int) (n : Nat) : ({ KF a n with kn := (keyB n).data.toList :: (KF a n).kn, ws := (KF a n).ws ++ [⟨keyB n, ke, a, 0⟩] } : FQ) = KF a (n + 1) := by
  rw [keyB_data]
  simp [KF, List.range_succ]
theorem KF_mem {a : Int} {n i : Nat} (hn : n ≤ 1000) (hi : i < 1000) : (keyB i).data.toList ∈ (KF a n).kn ↔ i < n := by
  rw [keyB_data]
  simp only [KF, List.mem_reverse, List.mem_map, List.mem_range]
  constructor
  · rintro ⟨j, hj, e⟩
    have := keyL_inj (by omega) hi e
    omega
  · intro h
    exact ⟨i, h, rfl⟩
theorem km_not (a : Int) (n : Nat) : km.data.toList ∉ (KF a n).kn := by
  simp only [KF, List.mem_reverse, List.mem_map, List.mem_range]
  rintro ⟨j, _, e⟩
  have h : keyL j = [109, 111, 114, 101] := e
  unfold keyL at h
  injection h with h _
  exact absurd h (by decide)
/-- The queue without its first key, and with the last. -/
def KD (a : Int) : FQ := ⟨1, (KF a 256).kn, (KF a 256).ws.drop 1⟩
def KE (a : Int) : FQ := ⟨1, km.data.toList :: (KF a 256).kn, (KF a 256).ws.drop 1 ++ [⟨km, ke, 0, 0⟩]⟩
theorem KD_len (a : Int) : (KD a).ws.length = 255 := by simp [KD, KF]
theorem KE_len (a : Int) : (KE a).ws.length = 256 := by simp [KE, KF]
theorem KF_find (a : Int) : findK (keyB 0) (KF a 256).ws = some 0 := by
  have h : (KF a 256).ws = ⟨keyB 0, ke, a, 0⟩ :: ((List.range 255).map (· + 1)).map fun i => (⟨keyB i, ke, a, 0⟩ : En) := by
    unfold KF
    rw [show (256 : Nat) = 255 + 1 from rfl, List.range_succ_eq_map]
    rfl
  rw [h]
  unfold findK
  rw [if_pos rfl]
theorem pollI_all {t : Int} : ∀ {l : List En}, (∀ x ∈ l, x.due ≤ t) → pollI t l = l.map fun x => ⟨x.key, x.text, x.tries + 1⟩
  | [], _ => rfl
  | x :: l, h => by
    have h1 := h x (by simp)
    unfold pollI
    rw [if_neg (by omega), pollI_all (fun y hy => h y (by simp [hy]))]
    rfl
theorem KE_mem {a : Int} {x : En} (h : x ∈ (KE a).ws) : (x.due = a ∨ x.due = 0) ∧ x.tries = 0 := by
  unfold KE KF at h
  rw [List.mem_append] at h
  rcases h with h | h
  · obtain ⟨i, _, rfl⟩ := List.mem_map.1 (List.mem_of_mem_drop h)
    exact ⟨.inl rfl, rfl⟩
  · simp at h
    subst h
    exact ⟨.inr rfl, rfl⟩
theorem KE_ok (a : Int) : (KE a).Ok := ⟨by simp [KE], by simp [KE], by rw [KE_len]; omega, fun x hx => by have := (KE_mem hx).2; omega⟩
/-- What the last poll returns. -/
def KI (a : Int) : List It := pollI 255 (KE a).ws
theorem KI_eq {a : Int} (ha : 0 ≤ a ∧ a ≤ 255) : KI a = (KE a).ws.map fun x => ⟨x.key, x.text, x.tries + 1⟩ := pollI_all fun x hx => by have := (KE_mem hx).1; omega
theorem KI_len {a : Int} (ha : 0 ≤ a ∧ a ≤ 255) : (KI a).length = 256 := by rw [KI_eq ha, List.length_map, KE_len]
theorem KI_at {a : Int} (ha : 0 ≤ a ∧ a ≤ 255) {i : Nat} (hi : i < 255) : (KI a)[i]? = some ⟨keyB (i + 1), ke, 1⟩ := by
  rw [KI_eq ha, List.getElem?_map]
  unfold KE KF
  rw [List.getElem?_append_left (by simp; omega), List.getElem?_drop, List.getElem?_map, List.getElem?_range (by omega), Nat.add_comm 1 i]
  rfl
theorem KI_last {a : Int} (ha : 0 ≤ a ∧ a ≤ 255) : (KI a)[255]? = some ⟨km, ke, 1⟩ := by
  rw [KI_eq ha, List.getElem?_map]
  unfold KE KF
  rw [List.getElem?_append_right (by simp)]
  simp
end Go.Proofs.Ythjgfheogbchkaa
