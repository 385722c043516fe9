/- The example that every pointer law plays first returns true, and so does the law PointerFieldsMatchSpec, for all integers, in every world in which the two tables hold what their text lays. -/
import Derived.Test.YtbmhgekeabodcaaDoorWalkE
namespace Go.Proofs.YtbmhgekeabodcaaDoor.Ptr
open Go Go.RowKit

set_option maxHeartbeats 1000000 in
theorem sanity_any (w : World) (T : Tabs w) :
    Calls Tryd.prog 9 #[] w fun e w' => e = .returned (.bool true) ∧ Below w.heap.size w w' := by
  have E := Ext.refl T
  have f1 : fieldS 2748 4 4 = 11 := by decide
  have f2 : withS 2748 4 4 5 = 2652 := by decide
  have m1 : makeS 3 2 = 8195 := by decide
  have m2 : makeS 3 5 = 20483 := by decide
  have m3 : makeS 3 4 = 16387 := by decide
  have l1 : lineS 8195 = 3 := by decide
  have g1 : genS 8195 = 2 := by decide
  have k1 : packS 1 2 5 = 673 := by decide
  have c1 : checkS 20483 673 = 0 := by decide
  have c2 : checkS 16387 673 = 70 := by decide
  have n1 : nextS 0 = 1 := by decide
  have n2 : nextS 1048575 = 1 := by decide
  go_enter Tryd.func9, Tryd.ntmps9
  go_wp2_with (first | (go_at_call 14; (with_reducible refine (ext_tabs (by assumption) (make_any _ _ _)).mono ?_); rintro e w' ⟨rfl, hE⟩) | (go_at_call 15; (with_reducible refine (ext_tabs (by assumption) (pack_any _ _ _ _)).mono ?_); rintro e w' ⟨rfl, hE⟩) | (go_at_call 10; (with_reducible refine (ext_below (by assumption) (fun _ => field_any _ _ _ _)).mono ?_); rintro e w' ⟨rfl, hE⟩) | (go_at_call 12; (with_reducible refine (ext_drew (by assumption) (with_any _ _ _ _ _)).mono ?_); rintro e w' ⟨rfl, hE⟩) | (go_at_call 18; (with_reducible refine (ext_below (by assumption) (line_any _ _)).mono ?_); rintro e w' ⟨rfl, hE⟩) | (go_at_call 19; (with_reducible refine (ext_below (by assumption) (gen_any _ _)).mono ?_); rintro e w' ⟨rfl, hE⟩) | (go_at_call 17; (with_reducible refine (ext_below (by assumption) (check_any _ _ _)).mono ?_); rintro e w' ⟨rfl, hE⟩) | (go_at_call 16; (with_reducible refine (ext_same (by assumption) (next_any _ _)).mono ?_); rintro e w' ⟨rfl, hE⟩))
  go_ret
  exact ⟨rfl, hE.below⟩

set_option maxHeartbeats 1000000 in
theorem law_fields (x t b v : Int) (w : World) (T : Tabs w) :
    Calls Tryd.prog 3 #[.int .i64 x, .int .i64 t, .int .i64 b, .int .i64 v] w fun e w' => e = .returned (.bool true) ∧ Below w.heap.size w w' := by
  have E := Ext.refl T
  go_enter Tryd.func3, Tryd.ntmps3
  go_wp2_with (first | (go_at_call 9; (with_reducible refine (ext_below (by assumption) (sanity_any _)).mono ?_); rintro e w' ⟨rfl, hE⟩) | (go_at_call 10; (with_reducible refine (ext_below (by assumption) (fun _ => field_any _ _ _ _)).mono ?_); rintro e w' ⟨rfl, hE⟩) | (go_at_call 11; (with_reducible refine (ext_drew (by assumption) (rfield_any _ _ _ _)).mono ?_); rintro e w' ⟨rfl, hE⟩) | (go_at_call 12; (with_reducible refine (ext_drew (by assumption) (with_any _ _ _ _ _)).mono ?_); rintro e w' ⟨rfl, hE⟩) | (go_at_call 13; (with_reducible refine (ext_drew (by assumption) (rwith_any _ _ _ _ _)).mono ?_); rintro e w' ⟨rfl, hE⟩))
  go_ret
  exact ⟨rfl, hE.below⟩

end Go.Proofs.YtbmhgekeabodcaaDoor.Ptr
