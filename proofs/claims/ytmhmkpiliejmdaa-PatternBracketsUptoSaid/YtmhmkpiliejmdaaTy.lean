/-
  THE TYPES OF THIS SEAT, as AW has them. Printed by gen_ty.py.
-/
import Derived.Test.YtmhmkpiliejmdaaProg
import Derived.Test.YtmhmkpiliejmdaaAw11
namespace Go.Proofs.Ytmhmkpiliejmdaa
open Go Go.Aw
def tys : List (Nat × Ty) := [
  (1, .sc (.nilf)),
  (2, .sc (.int .i64 0)),
  (3, .sc (.int .i64 0)),
  (4, .sc (.bool false)),
  (5, .sc (.int .u8 0)),
  (9, .sc (.str [])),
  (12, .sc (.int .u64 0)),
  (15, .sc (.nilp)),
  (16, .sc (.nilp)),
  (20, .sc (.nili)),
  (21, .sc (.int .i32 0)),
  (22, .slice 24 6 72),
  (23, .struct [(0, 1), (1, 1), (2, 1), (3, 1), (4, 1), (5, 1)] [.int .i64 0, .int .i64 0, .str [], .int .i64 0, .int .i64 0, .slice 6 [] .full]),
  (24, .struct [(0, 1), (1, 1), (2, 1), (3, 1), (4, 1), (5, 1)] [.int .i64 0, .int .i64 0, .str [], .int .i64 0, .int .i64 0, .slice 6 [] .full]),
  (25, .sc (.nilf)),
  (26, .sc (.int .i64 0)),
  (27, .sc (.nilf)),
  (28, .sc (.nilf)),
  (30, .sc (.nilf)),
  (31, .sc (.nilf)),
  (32, .slice 9 1 16),
  (34, .sc (.nilf)),
  (35, .sc (.nilf)),
  (36, .sc (.nilf)),
  (37, .sc (.nilf)),
  (39, .sc (.nilf)),
  (40, .sc (.nilf)),
  (41, .sc (.nilf)),
  (42, .sc (.nilf)),
  (43, .sc (.nilf)),
  (44, .sc (.nilf)),
  (45, .sc (.nilf)),
  (47, .sc (.nilf)),
  (48, .sc (.nilf)),
  (50, .sc (.nilf)),
  (51, .slice 3 1 8),
  (52, .sc (.nilf)),
  (53, .sc (.nilf)),
  (55, .sc (.nilf)),
  (56, .sc (.nilf)),
  (57, .sc (.nilf)),
  (58, .sc (.nilf)),
  (64, .sc (.nilf)),
  (65, .sc (.int .u32 0)),
  (69, .sc (.nilp))]
theorem tys_ok : POk Try.prog tys := by
  refine ⟨TOk_of ?_, by kernel_rfl⟩
  unfold tys
  refine all_cons (ty_sc Try.underlying1 rfl rfl (by kernel_rfl) trivial) ?_
  refine all_cons (ty_sc Try.underlying2 rfl rfl (by kernel_rfl) trivial) ?_
  refine all_cons (ty_sc Try.underlying3 rfl rfl (by kernel_rfl) trivial) ?_
  refine all_cons (ty_sc Try.underlying4 rfl rfl (by kernel_rfl) trivial) ?_
  refine all_cons (ty_sc Try.underlying5 rfl rfl (by kernel_rfl) trivial) ?_
  refine all_cons (ty_sc Try.underlying9 rfl rfl (by kernel_rfl) rfl) ?_
  refine all_cons (ty_sc Try.underlying12 rfl rfl (by kernel_rfl) trivial) ?_
  refine all_cons (ty_sc Try.underlying15 rfl rfl (by kernel_rfl) trivial) ?_
  refine all_cons (ty_sc Try.underlying16 rfl rfl (by kernel_rfl) trivial) ?_
  refine all_cons (ty_sc Try.underlying20 rfl rfl (by kernel_rfl) trivial) ?_
  refine all_cons (ty_sc Try.underlying21 rfl rfl (by kernel_rfl) trivial) ?_
  refine all_cons (ty_slice (c := .agg (([.int .i64 0, .int .i64 0, .str [], .int .i64 0, .int .i64 0, .slice 6 [] .full] : List V).map zval).toArray) Try.underlying22 (by kernel_rfl) (by kernel_rfl) (by decide) (by kernel_rfl)) ?_
  refine all_cons (ty_struct Try.underlying23 (by decide) (by kernel_rfl) (by kernel_rfl)) ?_
  refine all_cons (ty_struct Try.underlying24 (by decide) (by kernel_rfl) (by kernel_rfl)) ?_
  refine all_cons (ty_sc Try.underlying25 rfl rfl (by kernel_rfl) trivial) ?_
  refine all_cons (ty_sc Try.underlying26 rfl rfl (by kernel_rfl) trivial) ?_
  refine all_cons (ty_sc Try.underlying27 rfl rfl (by kernel_rfl) trivial) ?_
  refine all_cons (ty_sc Try.underlying28 rfl rfl (by kernel_rfl) trivial) ?_
  refine all_cons (ty_sc Try.underlying30 rfl rfl (by kernel_rfl) trivial) ?_
  refine all_cons (ty_sc Try.underlying31 rfl rfl (by kernel_rfl) trivial) ?_
  refine all_cons (ty_slice (c := zval (.str [])) Try.underlying32 (by kernel_rfl) (by kernel_rfl) (by decide) (by kernel_rfl)) ?_
  refine all_cons (ty_sc Try.underlying34 rfl rfl (by kernel_rfl) trivial) ?_
  refine all_cons (ty_sc Try.underlying35 rfl rfl (by kernel_rfl) trivial) ?_
  refine all_cons (ty_sc Try.underlying36 rfl rfl (by kernel_rfl) trivial) ?_
  refine all_cons (ty_sc Try.underlying37 rfl rfl (by kernel_rfl) trivial) ?_
  refine all_cons (ty_sc Try.underlying39 rfl rfl (by kernel_rfl) trivial) ?_
  refine all_cons (ty_sc Try.underlying40 rfl rfl (by kernel_rfl) trivial) ?_
  refine all_cons (ty_sc Try.underlying41 rfl rfl (by kernel_rfl) trivial) ?_
  refine all_cons (ty_sc Try.underlying42 rfl rfl (by kernel_rfl) trivial) ?_
  refine all_cons (ty_sc Try.underlying43 rfl rfl (by kernel_rfl) trivial) ?_
  refine all_cons (ty_sc Try.underlying44 rfl rfl (by kernel_rfl) trivial) ?_
  refine all_cons (ty_sc Try.underlying45 rfl rfl (by kernel_rfl) trivial) ?_
  refine all_cons (ty_sc Try.underlying47 rfl rfl (by kernel_rfl) trivial) ?_
  refine all_cons (ty_sc Try.underlying48 rfl rfl (by kernel_rfl) trivial) ?_
  refine all_cons (ty_sc Try.underlying50 rfl rfl (by kernel_rfl) trivial) ?_
  refine all_cons (ty_slice (c := zval (.int .i64 0)) Try.underlying51 (by kernel_rfl) (by kernel_rfl) (by decide) (by kernel_rfl)) ?_
  refine all_cons (ty_sc Try.underlying52 rfl rfl (by kernel_rfl) trivial) ?_
  refine all_cons (ty_sc Try.underlying53 rfl rfl (by kernel_rfl) trivial) ?_
  refine all_cons (ty_sc Try.underlying55 rfl rfl (by kernel_rfl) trivial) ?_
  refine all_cons (ty_sc Try.underlying56 rfl rfl (by kernel_rfl) trivial) ?_
  refine all_cons (ty_sc Try.underlying57 rfl rfl (by kernel_rfl) trivial) ?_
  refine all_cons (ty_sc Try.underlying58 rfl rfl (by kernel_rfl) trivial) ?_
  refine all_cons (ty_sc Try.underlying64 rfl rfl (by kernel_rfl) trivial) ?_
  refine all_cons (ty_sc Try.underlying65 rfl rfl (by kernel_rfl) trivial) ?_
  refine all_cons (ty_sc Try.underlying69 rfl rfl (by kernel_rfl) trivial) ?_
  exact all_nil
end Go.Proofs.Ytmhmkpiliejmdaa
