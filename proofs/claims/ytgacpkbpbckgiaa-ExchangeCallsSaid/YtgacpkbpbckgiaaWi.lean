/-
  Exchange: walk over Lost. Condition: the state is one that the calls make.
-/
import Derived.Test.YtgacpkbpbckgiaaWh
namespace Go.Proofs.Ytgacpkbpbckgiaa
open Go.RowKit
set_option linter.unusedVariables false

theorem fstU : ∀ {zs : List (Nat × Im)}, (zs.map Prod.fst).Nodup → ∀ {y z : Nat × Im}, y ∈ zs → z ∈ zs → y.1 = z.1 → y = z
  | [], _, _, _, hy, _, _ => by cases hy
  | b :: l, hn, y, x, hy, hx, e => by
    rw [List.map_cons, List.nodup_cons] at hn
    rcases List.mem_cons.1 hy with e1 | h1
    · rcases List.mem_cons.1 hx with e2 | h2
      · rw [e1, e2]
      · exact absurd (List.mem_map.2 ⟨_, h2, by rw [← e1, e]⟩) hn.1
    · rcases List.mem_cons.1 hx with e2 | h2
      · exact absurd (List.mem_map.2 ⟨_, h1, by rw [← e2, e]⟩) hn.1
      · exact fstU hn.2 h1 h2 e
theorem idxU {L : List (Nat × Im)} (hn : (L.map Prod.fst).Nodup) {j k : Nat} {y z : Nat × Im} (hj : L[j]? = some y) (hk : L[k]? = some z) (hne : j ≠ k) : y.1 ≠ z.1 := by
  intro e
  have h1 : (L.map Prod.fst)[j]? = some y.1 := by rw [List.getElem?_map, hj]; rfl
  have h2 : (L.map Prod.fst)[k]? = some y.1 := by rw [List.getElem?_map, hk, e]; rfl
  have hlj := (List.getElem?_eq_some_iff.1 h1).1
  exact hne ((List.getElem?_inj hlj hn).1 (by rw [h1, h2]))
def losB (t a : Int) (z : Nat × Im) : Bool := lostB t a z.2
def lk (t a : Int) (L : List (Nat × Im)) (k : Nat) : List ByteArray := ((L.take k).filter (losB t a)).map fun z => z.2.key
def rk (t a : Int) (L : List (Nat × Im)) (k : Nat) : List (Nat × Im) := (L.take k).filter fun z => !losB t a z
section
variable {t a : Int} {L : List (Nat × Im)} {k : Nat} {z : Nat × Im}
theorem lk_yes (h : L[k]? = some z) (hw : losB t a z = true) : lk t a L (k + 1) = lk t a L k ++ [z.2.key] := by
  unfold lk
  rw [List.take_add_one, h]
  simp [List.filter_append, hw]
theorem lk_no (h : L[k]? = some z) (hw : losB t a z = false) : lk t a L (k + 1) = lk t a L k := by
  unfold lk
  rw [List.take_add_one, h]
  simp [List.filter_append, hw]
theorem rk_yes (h : L[k]? = some z) (hw : losB t a z = true) : rk t a L (k + 1) = rk t a L k := by
  unfold rk
  rw [List.take_add_one, h]
  simp [List.filter_append, hw]
theorem rk_no (h : L[k]? = some z) (hw : losB t a z = false) : rk t a L (k + 1) = rk t a L k ++ [z] := by
  unfold rk
  rw [List.take_add_one, h]
  simp [List.filter_append, hw]
theorem lk_len (t a : Int) (L : List (Nat × Im)) (k : Nat) : (lk t a L k).length ≤ k := by
  unfold lk
  rw [List.length_map]
  exact Nat.le_trans (List.length_filter_le _ _) (by rw [List.length_take]; omega)
theorem rk_len (t a : Int) (L : List (Nat × Im)) (k : Nat) : (rk t a L k).length ≤ k := by
  unfold rk
  exact Nat.le_trans (List.length_filter_le _ _) (by rw [List.length_take]; omega)
end
/-- The requests, those lost reported. -/
def lostZ (t a : Int) (zs : List (Nat × Im)) : List (Nat × Im) := zs.map fun z => (z.1, lostU t a z.2)
theorem lostZ_snd (t a : Int) (zs : List (Nat × Im)) : (lostZ t a zs).map Prod.snd = (zs.map Prod.snd).map (lostU t a) := by
  unfold lostZ
  rw [List.map_map, List.map_map]
  rfl
theorem lostZ_fst (t a : Int) (zs : List (Nat × Im)) : (lostZ t a zs).map Prod.fst = zs.map Prod.fst := by
  unfold lostZ
  rw [List.map_map]
  rfl
theorem lostZ_look (t a : Int) (zs : List (Nat × Im)) : lookZ (lostZ t a zs) = lookZ zs := by
  funext k
  unfold lookZ lostZ
  rw [List.find?_map]
  have e : ((fun z : Nat × Im => decide (z.2.key.data.toList = k)) ∘ fun z : Nat × Im => (z.1, lostU t a z.2)) = fun z => decide (z.2.key.data.toList = k) := by
    funext z
    show decide ((lostU t a z.2).key.data.toList = k) = _
    rw [lostU_key]
  rw [e, Option.map_map]
  cases zs.find? fun z => decide (z.2.key.data.toList = k) <;> rfl
theorem lost_pend {t a : Int} {x : Im} (h : lostB t a x = true) : pendB x = true := by
  unfold lostB at h
  unfold pendB
  cases h0 : x.st == 0 <;> cases h2 : x.st == 2 <;> simp_all
theorem lostU_pend (t a : Int) (x : Im) : pendB (lostU t a x) = (!lostB t a x && pendB x) := by
  unfold lostU
  cases h : lostB t a x <;> simp [pendB]
theorem lostZ_pnd (t a : Int) (zs : List (Nat × Im)) : pnd (lostZ t a zs) = (pnd zs).filter fun z => !losB t a z := by
  unfold pnd lostZ
  rw [List.filter_map, List.filter_filter]
  have e1 : zs.filter ((fun z : Nat × Im => pendB z.2) ∘ fun z : Nat × Im => (z.1, lostU t a z.2)) = zs.filter fun z => (!losB t a z) && pendB z.2 := by
    refine List.filter_congr fun z hz => ?_
    exact lostU_pend t a z.2
  rw [e1]
  conv => rhs; rw [← List.map_id (zs.filter _)]
  refine List.map_congr_left fun z hz => ?_
  have hk := (List.mem_filter.1 hz).2
  simp only [Bool.and_eq_true, Bool.not_eq_true'] at hk
  unfold lostU
  rw [if_neg (by rw [show lostB t a z.2 = false from hk.1]; decide)]
  rfl
theorem losL_pnd (t a : Int) (zs : List (Nat × Im)) : ((zs.map Prod.snd).filter (lostB t a)).map Im.key = ((pnd zs).filter (losB t a)).map fun z => z.2.key := by
  unfold pnd
  rw [List.filter_filter, List.filter_map, List.map_map]
  have : (fun z : Nat × Im => losB t a z && pendB z.2) = lostB t a ∘ Prod.snd := by
    funext z
    show (lostB t a z.2 && pendB z.2) = lostB t a z.2
    cases h : lostB t a z.2 with
    | false => rfl
    | true => rw [lost_pend h]; rfl
  rw [this]
  rfl
/-- A pending request that is found lost holds the same cells, its outcome being 2. -/
theorem imC_lost (t a : Int) (x : Im) (h : lostB t a x = true) : imC t (lostU t a x) = #[.string x.key, .string x.text, .string x.reply, .int .i64 (x.at_ + t), .int .i64 2] := by
  unfold lostU
  rw [if_pos h]
  rfl
theorem lostU_no {t a : Int} {x : Im} (h : lostB t a x = false) : lostU t a x = x := by
  unfold lostU
  rw [if_neg (by rw [h]; decide)]

def LosRet (B p : Nat) (s : XS) (a : Int) (w : World) (e : Ending) (w' : World) : Prop :=
  ∃ A2 c2, e = .returned (.slice A2 (losL s a).length c2) ∧ rowL w' w.heap.size 9 1 A2 (losL s a).length c2 ((losL s a).map Value.string) ∧ PRep w' B p (losS s a) ∧ Turn B PT true w w'
section
variable (B p : Nat) (s : XS) (a : Int) (w : World)
theorem lost_no (h : ¬ okT s a) (r : PRep w B p s) : Calls Try.prog 18 #[.pointer (some ⟨p, 0, none⟩), .int .i64 a] w (LosRet B p s a w) := by
  have HQ := possible_any B p s w a r
  rw [decide_eq_false h] at HQ
  replace HQ := Lib.hid HQ
  have HR := Lib.hid r
  have HH := Lib.hid h
  clear h r
  go_enter Try.func18, Try.ntmps18
  go_wp2_with (go_at_call 29; refine HQ.out.mono ?_; rintro e w' ⟨rfl, rfl⟩)
  go_ret
  unfold LosRet losL losS
  rw [if_pos HH.out, if_pos HH.out]
  exact ⟨none, 0, rfl, rowL.nil _ _ _ _, HR.out, Turn.refl _ _ _ _⟩
set_option maxRecDepth 100000 in
set_option maxHeartbeats 6400000 in
theorem lost_now (hl : s.its.length ≤ 100000) (h : okT s a) (hBw : B ≤ w.heap.size) (r : PRep w B p s) : Calls Try.prog 18 #[.pointer (some ⟨p, 0, none⟩), .int .i64 a] w (LosRet B p s a w) := by
  have HQ := possible_any B p s w a r
  rw [decide_eq_true h] at HQ
  replace HQ := Lib.hid HQ
  have HH := Lib.hid h
  have HBw := Lib.hid hBw
  obtain ⟨h1, mb, zs, A, c, B0, h3, h4, h5, h6, h7⟩ := r
  obtain ⟨hnc, hcm⟩ := h7.len
  have hzl : zs.length = s.its.length := by rw [← h5, List.length_map]
  have hl2 : (pnd zs).length ≤ 100000 := by have := pnd_len zs; omega
  have l0 := B0.lt
  have f0 := B0.frozen
  have d1 : w.cell? ⟨p, 1, none⟩ = some (.int .i64 s.now) := B0.c 1 _ rfl
  have X2 := Lib.hid (blk4_s1 B0 (.int .i64 a))
  have M2 := Lib.hid (h4.set_ B0 1 (.int .i64 a))
  have Z2 := Lib.hid (h6.keep (fun _ _ b => b.far (w := w) (p := ⟨p, 1, none⟩) (by exact Blk.ne_ b B0 (by decide)) (.int .i64 a)))
  have R2 := Lib.hid (h7.far B0 (by decide) 1 (.int .i64 a))
  have T2 := Lib.hid ((Turn.refl B PT true w).setB B0 rfl h1 1 (.int .i64 a))
  have H5 := Lib.hid h5
  have sz : (w.setCell ⟨p, 1, none⟩ (.int .i64 a)).heap.size = w.heap.size := by simp [World.setCell]
  have hmf := makeF
  clear h h4 h5 h6 h7
  have d3 : (w.setCell ⟨p, 1, none⟩ (.int .i64 a)).cell? ⟨p, 3, none⟩ = some (.slice A (pnd zs).length c) := X2.out.c 3 _ rfl
  clear B0
  go_enter Try.func18, Try.ntmps18
  go_wp2_with (go_at_call 29; refine HQ.out.mono ?_; rintro e w' ⟨rfl, rfl⟩)
  obtain ⟨L, hL⟩ : ∃ L, pnd zs = L := ⟨_, rfl⟩
  have HL := Lib.hid hL
  have hnd : (L.map Prod.fst).Nodup := by
    rw [← hL]
    exact Z2.out.1.sublist (List.Sublist.map _ List.filter_sublist)
  have HND := Lib.hid hnd
  rw [hL] at X2 R2 hnc hl2 d3 ⊢
  clear hL hnd d1 l0 f0
  generalize w.setCell ⟨p, 1, none⟩ (.int .i64 a) = w2 at X2 M2 Z2 R2 T2 sz d3 ⊢
  have SZ := Lib.hid sz
  have zB : B ≤ w2.heap.size := by rw [sz]; exact hBw
  clear sz hBw
  go_loopw [5, 6, 27] (fun ks rs i wr => ∃ (k : Nat) (A2 : Option Addr) (c2 : Nat) (A3 : Option Addr) (c3 : Nat), k ≤ L.length ∧ i = .int .i64 k ∧ ks = .slice A2 (lk s.tmo a L k).length c2 ∧ rs = .slice A3 (rk s.tmo a L k).length c3 ∧
      rowL wr w2.heap.size 9 1 A2 (lk s.tmo a L k).length c2 ((lk s.tmo a L k).map Value.string) ∧ rowL wr w2.heap.size 69 1 A3 (rk s.tmo a L k).length c3 ((rk s.tmo a L k).map ptrZ) ∧
      (∀ j z, L[j]? = some z → Blk wr z.1 76 (imC s.tmo (if j < k then lostU s.tmo a z.2 else z.2))) ∧ (∀ z ∈ zs, pendB z.2 = false → Blk wr z.1 76 (imC s.tmo z.2)) ∧ Turn B [76] false w2 wr) (fun _ _ i _ => L.length - (intOf i).toNat)
  case atStart =>
    refine ⟨0, none, 0, none, 0, by omega, rfl, rfl, rfl, rowL.nil _ _ _ _, rowL.nil _ _ _ _, fun j z hz => ?_, fun z hz _ => (Z2.out.2 z hz).2, Turn.refl _ _ _ _⟩
    rw [if_neg (by omega)]
    exact (Z2.out.2 z (by have := List.mem_of_getElem? hz; rw [← HL.out] at this; exact (pnd_mem this).1)).2
  case round =>
    obtain ⟨k, A2, C2, A3, C3, hk, rfl, rfl, rfl, hK, hR, hZ, hO, hT⟩ := hrel
    have HK := Lib.hid hK
    have HR := Lib.hid hR
    have HZ := Lib.hid hZ
    have HO := Lib.hid hO
    have HT := Lib.hid hT
    have zr := hT.size
    have lk0 := lk_len s.tmo a L k
    have rk0 := rk_len s.tmo a L k
    clear hK hR hZ hO hT
    by_cases hlt : k < L.length
    · obtain ⟨g, rfl, _, _, hcell, _⟩ := (R2.out.turn HT.out rfl).cells (by omega)
      have hu : L[k]? = some L[k] := List.getElem?_eq_getElem hlt
      have g0 : wr.cell? ⟨g, k, none⟩ = some (ptrZ L[k]) := hcell k _ (by rw [List.getElem?_map, hu]; rfl)
      have BZ := HZ.out k _ hu
      rw [if_neg (by omega)] at BZ
      have hmem : L[k] ∈ zs ∧ pendB L[k].2 = true := pnd_mem (by rw [HL.out]; exact List.getElem_mem hlt)
      have HU := Lib.hid hu
      clear hcell hu
      generalize L[k] = z at g0 BZ hmem HU
      obtain ⟨hz1, hz2⟩ := hmem
      have hBz : B ≤ z.1 := (Z2.out.2 z hz1).1
      unfold ptrZ at g0
      have d0 : wr.cell? ⟨z.1, 0, none⟩ = some (.string z.2.key) := BZ.c 0 _ rfl
      have e3 : wr.cell? ⟨z.1, 3, none⟩ = some (.int .i64 (z.2.at_ + s.tmo)) := BZ.c 3 _ rfl
      have e4 : wr.cell? ⟨z.1, 4, none⟩ = some (.int .i64 (oc z.2.st)) := BZ.c 4 _ rfl
      have HBZ := Lib.hid BZ
      have hst : z.2.st = 0 ∨ z.2.st = 2 := by unfold pendB at hz2; simpa using hz2
      by_cases hd : z.2.at_ + s.tmo ≤ a
      · have hlb : losB s.tmo a z = true := by
          unfold losB lostB
          rcases hst with e | e <;> simp [e, hd]
        have HW1 := Lib.hid (lk_yes HU.out hlb)
        have HW2 := Lib.hid (rk_yes HU.out hlb)
        have fz := BZ.frozen
        have lz := BZ.lt
        have IS := is_any (wr.setCell ⟨z.1, 4, none⟩ (.int .i64 2)) z.1 2 2 ((blk5_s4 BZ (.int .i64 2)).c 4 _ rfl)
        rw [show decide ((2 : Int) = 2) = true from rfl] at IS
        have HIS := Lib.hid IS
        clear IS
        go_wp2_with fail
        have HKq := Lib.hid (HK.out.far BZ (by decide) 4 (.int .i64 2))
        have HRq := Lib.hid (HR.out.far BZ (by decide) 4 (.int .i64 2))
        have HTq := Lib.hid (HT.out.setB BZ rfl hBz 4 (.int .i64 2))
        have HZq : Hid (∀ j y, L[j]? = some y → Blk (wr.setCell ⟨z.1, 4, none⟩ (.int .i64 2)) y.1 76 (imC s.tmo (if j < k + 1 then lostU s.tmo a y.2 else y.2))) := Lib.hid (fun j y hy => by
          by_cases ej : j = k
          · subst ej
            have : y = z := by have := HU.out; rw [hy] at this; injection this
            subst this
            rw [if_pos (by omega), imC_lost _ _ _ hlb]
            exact blk5_s4 BZ _
          · have h8 := HZ.out j y hy
            have e8 : (if j < k + 1 then lostU s.tmo a y.2 else y.2) = (if j < k then lostU s.tmo a y.2 else y.2) := by
              by_cases h9 : j < k
              · rw [if_pos h9, if_pos (by omega)]
              · rw [if_neg h9, if_neg (by omega)]
            rw [e8]
            exact h8.far (by exact idxU HND.out hy HU.out ej) _)
        have HOq : Hid (∀ y ∈ zs, pendB y.2 = false → Blk (wr.setCell ⟨z.1, 4, none⟩ (.int .i64 2)) y.1 76 (imC s.tmo y.2)) := Lib.hid (fun y hy hp => (HO.out y hy hp).far (by
          intro e
          have := fstU Z2.out.1 hy hz1 e
          rw [this, hz2] at hp
          cases hp) _)
        have k0 : (wr.setCell ⟨z.1, 4, none⟩ (.int .i64 2)).cell? ⟨z.1, 0, none⟩ = some (.string z.2.key) := (blk5_s4 BZ (.int .i64 2)).c 0 _ rfl
        have zq := HTq.out.size
        clear HK HR HT HZ HO BZ HBZ d0 e3 e4 fz lz g0 zr
        generalize wr.setCell ⟨z.1, 4, none⟩ (.int .i64 2) = wq at HKq HRq HTq HZq HOq HIS k0 zq ⊢
        refine HIS.out.mono ?_
        rintro e w' ⟨rfl, rfl⟩
        go_wp2_with
          (at_builtin
           go_must (refine wpList_appL strE _ _ rfl rfl (m := 1) (c' := 1) (ys := [Value.string z.2.key]) rfl rfl (HKq.out.alloc (.cells #[.string z.2.key] 9)) (RDn.of_box (Blk.new wq 9 #[.string z.2.key])) (str_one z.2.key) (by unfold maxLen; omega) (by omega) (by simp; omega) ?_)
           intro A5 c5 w5 hr5 hg5 hor
           have RA := HKq.out.alloc (.cells #[.string z.2.key] 9)
           have HK5 := Lib.hid hr5
           have HR5 := Lib.hid ((HRq.out.alloc (.cells #[.string z.2.key] 9)).grown RA (by decide) hg5)
           have HT5 := Lib.hid ((HTq.out.alloc (.cells #[.string z.2.key] 9) zB).grownN RA hg5 zB)
           have HZ5 : Hid (∀ j y, L[j]? = some y → Blk w5 y.1 76 (imC s.tmo (if j < k + 1 then lostU s.tmo a y.2 else y.2))) := Lib.hid (fun j y hy => ((HZq.out j y hy).alloc (.cells #[.string z.2.key] 9)).grownL RA (by decide) hg5)
           have HO5 : Hid (∀ y ∈ zs, pendB y.2 = false → Blk w5 y.1 76 (imC s.tmo y.2)) := Lib.hid (fun y hy hp => ((HOq.out y hy hp).alloc (.cells #[.string z.2.key] 9)).grownL RA (by decide) hg5)
           clear hr5 hg5 hor RA)
        go_roundw
        case rel =>
          refine ⟨k + 1, A5, c5, A3, C3, by omega, by go_num, by rw [HW1.out, List.length_append]; rfl, by rw [HW2.out], ?_, by rw [HW2.out]; exact HR5.out, HZ5.out, HO5.out, HT5.out⟩
          rw [HW1.out, List.length_append, List.map_append]
          exact HK5.out
        case measure => simp [intOf]; omega
      · rcases hst with e0 | e2
        · have hst := e0
          have hlb : losB s.tmo a z = false := by
            unfold losB lostB
            simp [e0, hd]
          have HW1 := Lib.hid (lk_no HU.out hlb)
          have HW2 := Lib.hid (rk_no HU.out hlb)
          have HKq := HK
          have HRq := HR
          have HTq := HT
          have HOq := HO
          have HZq : Hid (∀ j y, L[j]? = some y → Blk wr y.1 76 (imC s.tmo (if j < k + 1 then lostU s.tmo a y.2 else y.2))) := Lib.hid (fun j y hy => by
            by_cases ej : j = k
            · subst ej
              have : y = z := by have := HU.out; rw [hy] at this; injection this
              subst this
              rw [if_pos (by omega)]
              rw [lostU_no hlb]
              exact BZ
            · have h8 := HZ.out j y hy
              have e8 : (if j < k + 1 then lostU s.tmo a y.2 else y.2) = (if j < k then lostU s.tmo a y.2 else y.2) := by
                by_cases h9 : j < k
                · rw [if_pos h9, if_pos (by omega)]
                · rw [if_neg h9, if_neg (by omega)]
              rw [e8]
              exact h8)
          have IS := is_any wr z.1 (oc z.2.st) 2 e4
          rw [e0, show decide (oc 0 = 2) = false from rfl] at IS
          have HIS := Lib.hid IS
          clear IS HK HR HT HZ HO BZ e4 e0 hst
          go_wp2_with (first
            | (go_at_call 33; refine HIS.out.mono ?_; rintro e w' ⟨rfl, rfl⟩)
            | (at_builtin
               go_must (refine wpList_appL ptrE _ _ rfl rfl (m := 1) (c' := 1) (ys := [.pointer (some ⟨z.1, 0, none⟩)]) rfl rfl (HRq.out.alloc (.cells #[.pointer (some ⟨z.1, 0, none⟩)] 69)) (RDn.of_box (Blk.new wr 69 #[.pointer (some ⟨z.1, 0, none⟩)])) (ptr_one z.1) (by unfold maxLen; omega) (by omega) (by simp; omega) ?_)
               intro A5 c5 w5 hr5 hg5 hor
               have RA := HRq.out.alloc (.cells #[.pointer (some ⟨z.1, 0, none⟩)] 69)
               have HR5 := Lib.hid hr5
               have HK5 := Lib.hid ((HKq.out.alloc (.cells #[.pointer (some ⟨z.1, 0, none⟩)] 69)).grown RA (by decide) hg5)
               have HT5 := Lib.hid ((HTq.out.alloc (.cells #[.pointer (some ⟨z.1, 0, none⟩)] 69) zB).grownN RA hg5 zB)
               have HZ5 : Hid (∀ j y, L[j]? = some y → Blk w5 y.1 76 (imC s.tmo (if j < k + 1 then lostU s.tmo a y.2 else y.2))) := Lib.hid (fun j y hy => ((HZq.out j y hy).alloc (.cells #[.pointer (some ⟨z.1, 0, none⟩)] 69)).grownL RA (by decide) hg5)
               have HO5 : Hid (∀ y ∈ zs, pendB y.2 = false → Blk w5 y.1 76 (imC s.tmo y.2)) := Lib.hid (fun y hy hp => ((HOq.out y hy hp).alloc (.cells #[.pointer (some ⟨z.1, 0, none⟩)] 69)).grownL RA (by decide) hg5)
               clear hr5 hg5 hor RA))
          go_roundw
          case rel =>
            refine ⟨k + 1, A2, C2, A5, c5, by omega, by go_num, by rw [HW1.out], by rw [HW2.out, List.length_append]; rfl, by rw [HW1.out]; exact HK5.out, ?_, HZ5.out, HO5.out, HT5.out⟩
            rw [HW2.out, List.length_append, List.map_append]
            exact HR5.out
          case measure => simp [intOf]; omega
        · have hst := e2
          have hlb : losB s.tmo a z = true := by
            unfold losB lostB
            simp [e2]
          have HW1 := Lib.hid (lk_yes HU.out hlb)
          have HW2 := Lib.hid (rk_yes HU.out hlb)
          have HKq := HK
          have HRq := HR
          have HTq := HT
          have HOq := HO
          have HZq : Hid (∀ j y, L[j]? = some y → Blk wr y.1 76 (imC s.tmo (if j < k + 1 then lostU s.tmo a y.2 else y.2))) := Lib.hid (fun j y hy => by
            by_cases ej : j = k
            · subst ej
              have : y = z := by have := HU.out; rw [hy] at this; injection this
              subst this
              rw [if_pos (by omega)]
              have h7 := BZ
              rw [imC_lost _ _ _ hlb]
              unfold imC at h7
              rw [e2] at h7
              exact h7
            · have h8 := HZ.out j y hy
              have e8 : (if j < k + 1 then lostU s.tmo a y.2 else y.2) = (if j < k then lostU s.tmo a y.2 else y.2) := by
                by_cases h9 : j < k
                · rw [if_pos h9, if_pos (by omega)]
                · rw [if_neg h9, if_neg (by omega)]
              rw [e8]
              exact h8)
          have IS := is_any wr z.1 (oc z.2.st) 2 e4
          rw [e2, show decide (oc 2 = 2) = true from rfl] at IS
          have HIS := Lib.hid IS
          clear IS HK HR HT HZ HO BZ e4 e2 hst
          go_wp2_with (first
            | (go_at_call 33; refine HIS.out.mono ?_; rintro e w' ⟨rfl, rfl⟩)
            | (at_builtin
               go_must (refine wpList_appL strE _ _ rfl rfl (m := 1) (c' := 1) (ys := [Value.string z.2.key]) rfl rfl (HKq.out.alloc (.cells #[.string z.2.key] 9)) (RDn.of_box (Blk.new wr 9 #[.string z.2.key])) (str_one z.2.key) (by unfold maxLen; omega) (by omega) (by simp; omega) ?_)
               intro A5 c5 w5 hr5 hg5 hor
               have RA := HKq.out.alloc (.cells #[.string z.2.key] 9)
               have HK5 := Lib.hid hr5
               have HR5 := Lib.hid ((HRq.out.alloc (.cells #[.string z.2.key] 9)).grown RA (by decide) hg5)
               have HT5 := Lib.hid ((HTq.out.alloc (.cells #[.string z.2.key] 9) zB).grownN RA hg5 zB)
               have HZ5 : Hid (∀ j y, L[j]? = some y → Blk w5 y.1 76 (imC s.tmo (if j < k + 1 then lostU s.tmo a y.2 else y.2))) := Lib.hid (fun j y hy => ((HZq.out j y hy).alloc (.cells #[.string z.2.key] 9)).grownL RA (by decide) hg5)
               have HO5 : Hid (∀ y ∈ zs, pendB y.2 = false → Blk w5 y.1 76 (imC s.tmo y.2)) := Lib.hid (fun y hy hp => ((HOq.out y hy hp).alloc (.cells #[.string z.2.key] 9)).grownL RA (by decide) hg5)
               clear hr5 hg5 hor RA))
          go_roundw
          case rel =>
            refine ⟨k + 1, A5, c5, A3, C3, by omega, by go_num, by rw [HW1.out, List.length_append]; rfl, by rw [HW2.out], ?_, by rw [HW2.out]; exact HR5.out, HZ5.out, HO5.out, HT5.out⟩
            rw [HW1.out, List.length_append, List.map_append]
            exact HK5.out
          case measure => simp [intOf]; omega
    · have hkl : k = L.length := by omega
      have hE1 : lk s.tmo a L k = losL s a := by
        unfold losL
        rw [if_neg (not_not_intro HH.out), ← H5.out, losL_pnd, HL.out, hkl]
        unfold lk
        rw [List.take_length]
      have hE2 : rk s.tmo a L k = pnd (lostZ s.tmo a zs) := by
        rw [lostZ_pnd, HL.out, hkl]
        unfold rk
        rw [List.take_length]
      have hE3 : losS s a = ⟨s.tmo, a, s.its.map (lostU s.tmo a)⟩ := by
        unfold losS
        rw [if_neg (not_not_intro HH.out)]
      have HE1 := Lib.hid hE1
      have HE2 := Lib.hid hE2
      have HE3 := Lib.hid hE3
      have HKL := Lib.hid hkl
      have Xr := X2.out.turn HT.out rfl
      have lr := Xr.lt
      have fr := Xr.frozen
      have dr : wr.cell? ⟨p, 3, none⟩ = some (.slice A L.length c) := Xr.c 3 _ rfl
      have HXr := Lib.hid Xr
      clear hE1 hE2 hE3 hkl Xr
      go_wp2_with fail
      go_ret
      refine ⟨A2, C2, by rw [← HE1.out]; rfl, ?_, ?_, ((T2.out.trans (HT.out.mono (Nat.le_refl _) (fun t ht => by simp at ht ⊢; subst ht; simp) (fun hh => by cases hh))).setB HXr.out rfl h1 3 _)⟩
      · rw [← HE1.out, ← SZ.out]
        exact HK.out.far HXr.out (by decide) 3 _
      · rw [HE3.out]
        refine ⟨h1, mb, lostZ s.tmo a zs, A3, C3, ?_, h3, ?_, ?_, ?_, ?_⟩
        · rw [← HE2.out]
          exact blk4_s3 HXr.out _
        · rw [lostZ_look, show (lostZ s.tmo a zs).length = zs.length by unfold lostZ; rw [List.length_map]]
          exact (M2.out.turn HT.out).set_ HXr.out 3 _
        · rw [lostZ_snd, H5.out]
        · refine ⟨by rw [lostZ_fst]; exact Z2.out.1, fun z hz => ?_⟩
          obtain ⟨y, hy, rfl⟩ := List.mem_map.1 hz
          refine ⟨(Z2.out.2 y hy).1, ?_⟩
          have hb : Blk wr y.1 76 (imC s.tmo (lostU s.tmo a y.2)) := by
            cases hp : pendB y.2 with
            | false =>
              have : lostB s.tmo a y.2 = false := by
                cases hq : lostB s.tmo a y.2 with
                | false => rfl
                | true => rw [lost_pend hq] at hp; cases hp
              rw [lostU_no this]
              exact HO.out y hy hp
            | true =>
              have hm : y ∈ L := by rw [← HL.out]; exact List.mem_filter.2 ⟨hy, hp⟩
              obtain ⟨j, hj, hjy⟩ := List.mem_iff_getElem.1 hm
              have h9 := HZ.out j y (by rw [List.getElem?_eq_getElem hj, hjy])
              rw [if_pos (by rw [HKL.out]; exact hj)] at h9
              exact h9
          exact hb.far (by exact Blk.ne_ hb HXr.out (by decide)) _
        · rw [← HE2.out]
          have h8 : B ≤ w2.heap.size := zB
          exact (HR.out.mono h8).far HXr.out (by decide) 3 _
theorem lost_any (hl : s.its.length ≤ 100000) (hBw : B ≤ w.heap.size) (r : PRep w B p s) : Calls Try.prog 18 #[.pointer (some ⟨p, 0, none⟩), .int .i64 a] w (LosRet B p s a w) := by
  by_cases h : okT s a
  · exact lost_now B p s a w hl h hBw r
  · exact lost_no B p s a w h r
end
end Go.Proofs.Ytgacpkbpbckgiaa
