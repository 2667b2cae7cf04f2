/-
  Walk over the law BitmapJoins: it returns true at all bitmaps. No condition but that their words are 64-bit words.
-/
import Derived.Test.YtfolabkgeeeobaaPb
import Derived.Test.YtfolabkgeeeobaaWd
namespace Go.Proofs.Ytfolabkgeeeobaa
open Go.RowKit

set_option maxRecDepth 100000 in
set_option maxHeartbeats 1600000 in
theorem law_joins (a b c d : Int) (w : World) (ha : Wd a) (hb : Wd b) (hc : Wd c) (hd : Wd d) :
    Calls Try.prog 4 #[.agg #[.int .u64 a, .int .u64 b], .agg #[.int .u64 c, .int .u64 d]] w fun e w' => e = .returned (.bool true) ∧ Below w.heap.size w w' := by
  have U := Lib.hid (union_eq ha hb hc hd)
  have M := Lib.hid (minus_eq ha hb hc hd)
  clear ha hb hc hd
  have iss := isSome_setCell
  have heq := eq26
  go_enter Try.func4, Try.ntmps4
  go_wp2_with fail
  have B0 := (Blk.new w 26 #[.int .u64 a, .int .u64 b]).alloc (.cells #[.int .u64 c, .int .u64 d] 26)
  have B1 := Blk.new (w.alloc (.cells #[.int .u64 a, .int .u64 b] 26)) 26 #[.int .u64 c, .int .u64 d]
  have C0 := fun n : Up _ => (B0.call n.2).c0
  have C1 := fun n : Up _ => (B0.call n.2).c1
  have D0 := fun n : Up _ => (B1.call n.2).c0
  have D1 := fun n : Up _ => (B1.call n.2).c1
  have e1 : (w.alloc (.cells #[.int .u64 a, .int .u64 b] 26)).heap.size = w.heap.size + 1 := by simp
  simp only [e1] at D0 D1
  clear B0 B1
  refine wp_region_up (by kernel_rfl) (by kernel_rfl) ?_
  repeat (go_big_quiet_step (first | (go_at_call 12; exact Calls.up _ (union_any _ _ _ _ _)) | (go_at_call 13; exact Calls.up _ (runion_any _ _ _ _ _ _ _ U.out)) | (go_at_call 14; exact Calls.up _ (minus_any _ _ _ _ _)) | (go_at_call 15; exact Calls.up _ (rminus_any _ _ _ _ _ _ _ M.out)) | (go_at_call 9; exact Calls.up _ (awake_any _))))
  refine wpQuiet_nil ?_
  intro N
  go_wp2
  go_ret
  exact ⟨rfl, ((((Below.refl _ _).alloc (Nat.le_refl _) _).alloc (by simp) _).trans (N.2.mono (by simp <;> omega)))⟩
end Go.Proofs.Ytfolabkgeeeobaa
