/-
  THE TYPES OF THIS SEAT, as AW has them. Printed by gen_ty.py.
-/
import Derived.Test.YtngbihfihdheoaaProg
import Derived.Test.YtngbihfihdheoaaAw11
namespace Go.Proofs.Ytngbihfihdheoaa
open Go Go.Aw
def tys : List (Nat × Ty) := [
  (1, .sc (.nilf)),
  (2, .sc (.int .i64 0)),
  (3, .sc (.int .i64 0)),
  (4, .sc (.bool false)),
  (5, .sc (.int .u8 0)),
  (9, .sc (.str [])),
  (12, .sc (.int .u64 0)),
  (15, .sc (.nilp)),
  (16, .sc (.nilp)),
  (20, .sc (.nili)),
  (21, .sc (.int .i32 0)),
  (22, .slice 47 4 40),
  (23, .slice 3 1 8),
  (24, .struct [(0, 1), (1, 1), (2, 1), (3, 1)] [.slice 4 [] .full, .int .i64 0, .slice 1 [] .full, .int .i64 0]),
  (25, .struct [(0, 1), (1, 1), (2, 1), (3, 1)] [.slice 4 [] .full, .int .i64 0, .slice 1 [] .full, .int .i64 0]),
  (26, .sc (.nilf)),
  (27, .sc (.nilf)),
  (28, .slice 30 6 72),
  (29, .struct [(0, 1), (1, 1), (2, 1), (3, 1), (4, 1), (5, 1)] [.int .i64 0, .int .i64 0, .str [], .int .i64 0, .int .i64 0, .slice 6 [] .full]),
  (30, .struct [(0, 1), (1, 1), (2, 1), (3, 1), (4, 1), (5, 1)] [.int .i64 0, .int .i64 0, .str [], .int .i64 0, .int .i64 0, .slice 6 [] .full]),
  (31, .sc (.int .i64 0)),
  (33, .sc (.nilf)),
  (34, .sc (.nilf)),
  (35, .struct [(0, 6), (6, 4), (10, 1)] [.int .i64 0, .int .i64 0, .str [], .int .i64 0, .int .i64 0, .slice 6 [] .full, .slice 4 [] .full, .int .i64 0, .slice 1 [] .full, .int .i64 0, .int .i64 0]),
  (36, .struct [(0, 6), (6, 4), (10, 1)] [.int .i64 0, .int .i64 0, .str [], .int .i64 0, .int .i64 0, .slice 6 [] .full, .slice 4 [] .full, .int .i64 0, .slice 1 [] .full, .int .i64 0, .int .i64 0]),
  (37, .sc (.nilf)),
  (38, .sc (.nilf)),
  (39, .sc (.nilf)),
  (40, .sc (.nilf)),
  (41, .sc (.nilf)),
  (43, .sc (.nilf)),
  (44, .sc (.nilf)),
  (45, .sc (.nilf)),
  (46, .struct [(0, 1), (1, 1), (2, 1), (3, 1)] [.int .i64 0, .str [], .int .i64 0, .int .i64 0]),
  (47, .struct [(0, 1), (1, 1), (2, 1), (3, 1)] [.int .i64 0, .str [], .int .i64 0, .int .i64 0]),
  (48, .sc (.nilf)),
  (49, .sc (.nilf)),
  (50, .sc (.nilf)),
  (51, .sc (.nilf)),
  (52, .sc (.nilf)),
  (53, .sc (.nilf)),
  (54, .sc (.nilf)),
  (55, .sc (.nilf)),
  (56, .sc (.nilf)),
  (58, .sc (.nilf)),
  (59, .sc (.nilf)),
  (60, .sc (.nilp)),
  (61, .struct [(0, 4), (4, 4), (8, 4), (12, 1), (13, 1)] [.slice 4 [] .full, .int .i64 0, .slice 1 [] .full, .int .i64 0, .int .i64 0, .str [], .int .i64 0, .int .i64 0, .slice 4 [] .full, .int .i64 0, .slice 1 [] .full, .int .i64 0, .int .i64 0, .bool false]),
  (62, .struct [(0, 4), (4, 4), (8, 4), (12, 1), (13, 1)] [.slice 4 [] .full, .int .i64 0, .slice 1 [] .full, .int .i64 0, .int .i64 0, .str [], .int .i64 0, .int .i64 0, .slice 4 [] .full, .int .i64 0, .slice 1 [] .full, .int .i64 0, .int .i64 0, .bool false]),
  (63, .struct [(0, 1)] [.int .i64 0]),
  (64, .struct [(0, 1)] [.int .i64 0]),
  (66, .sc (.nilf)),
  (67, .sc (.nilf)),
  (68, .sc (.nilf)),
  (69, .sc (.nilf)),
  (70, .sc (.nilf)),
  (71, .sc (.nilf)),
  (72, .sc (.nilf)),
  (73, .sc (.nilf)),
  (74, .sc (.nilf)),
  (76, .sc (.nilf)),
  (77, .sc (.nilf)),
  (78, .sc (.nilf)),
  (79, .sc (.nilf)),
  (80, .sc (.nilf)),
  (81, .sc (.nilf)),
  (82, .sc (.nilf)),
  (83, .sc (.nilf)),
  (84, .sc (.nilf)),
  (85, .sc (.nilf)),
  (86, .sc (.nilf)),
  (87, .sc (.nilf)),
  (88, .sc (.nilf)),
  (89, .sc (.nilf)),
  (90, .sc (.nilf)),
  (91, .sc (.nilf)),
  (92, .sc (.nilf)),
  (98, .sc (.nilf)),
  (99, .sc (.int .u32 0)),
  (103, .sc (.nilp))]
theorem tys_ok : POk Try.prog tys := by
  refine ⟨TOk_of ?_, by kernel_rfl⟩
  unfold tys
  refine all_cons (ty_sc Try.underlying1 rfl rfl (by kernel_rfl) (fun _ h => by cases h)) ?_
  refine all_cons (ty_sc Try.underlying2 rfl rfl (by kernel_rfl) (fun _ h => by cases h)) ?_
  refine all_cons (ty_sc Try.underlying3 rfl rfl (by kernel_rfl) (fun _ h => by cases h)) ?_
  refine all_cons (ty_sc Try.underlying4 rfl rfl (by kernel_rfl) (fun _ h => by cases h)) ?_
  refine all_cons (ty_sc Try.underlying5 rfl rfl (by kernel_rfl) (fun _ h => by cases h)) ?_
  refine all_cons (ty_sc Try.underlying9 rfl rfl (by kernel_rfl) rfl) ?_
  refine all_cons (ty_sc Try.underlying12 rfl rfl (by kernel_rfl) (fun _ h => by cases h)) ?_
  refine all_cons (ty_sc Try.underlying15 rfl rfl (by kernel_rfl) (fun _ h => by cases h)) ?_
  refine all_cons (ty_sc Try.underlying16 rfl rfl (by kernel_rfl) (fun _ h => by cases h)) ?_
  refine all_cons (ty_sc Try.underlying20 rfl rfl (by kernel_rfl) ⟨_, rfl⟩) ?_
  refine all_cons (ty_sc Try.underlying21 rfl rfl (by kernel_rfl) (fun _ h => by cases h)) ?_
  refine all_cons (ty_slice (c := .agg (([.int .i64 0, .str [], .int .i64 0, .int .i64 0] : List V).map zval).toArray) Try.underlying22 (by kernel_rfl) (by kernel_rfl) (by decide) (by kernel_rfl)) ?_
  refine all_cons (ty_slice (c := zval (.int .i64 0)) Try.underlying23 (by kernel_rfl) (by kernel_rfl) (by decide) (by kernel_rfl)) ?_
  refine all_cons (ty_struct Try.underlying24 (by decide) (by kernel_rfl) (by kernel_rfl) (by kernel_rfl)) ?_
  refine all_cons (ty_struct Try.underlying25 (by decide) (by kernel_rfl) (by kernel_rfl) (by kernel_rfl)) ?_
  refine all_cons (ty_sc Try.underlying26 rfl rfl (by kernel_rfl) (fun _ h => by cases h)) ?_
  refine all_cons (ty_sc Try.underlying27 rfl rfl (by kernel_rfl) (fun _ h => by cases h)) ?_
  refine all_cons (ty_slice (c := .agg (([.int .i64 0, .int .i64 0, .str [], .int .i64 0, .int .i64 0, .slice 6 [] .full] : List V).map zval).toArray) Try.underlying28 (by kernel_rfl) (by kernel_rfl) (by decide) (by kernel_rfl)) ?_
  refine all_cons (ty_struct Try.underlying29 (by decide) (by kernel_rfl) (by kernel_rfl) (by kernel_rfl)) ?_
  refine all_cons (ty_struct Try.underlying30 (by decide) (by kernel_rfl) (by kernel_rfl) (by kernel_rfl)) ?_
  refine all_cons (ty_sc Try.underlying31 rfl rfl (by kernel_rfl) (fun _ h => by cases h)) ?_
  refine all_cons (ty_sc Try.underlying33 rfl rfl (by kernel_rfl) (fun _ h => by cases h)) ?_
  refine all_cons (ty_sc Try.underlying34 rfl rfl (by kernel_rfl) (fun _ h => by cases h)) ?_
  refine all_cons (ty_struct Try.underlying35 (by decide) (by kernel_rfl) (by kernel_rfl) (by kernel_rfl)) ?_
  refine all_cons (ty_struct Try.underlying36 (by decide) (by kernel_rfl) (by kernel_rfl) (by kernel_rfl)) ?_
  refine all_cons (ty_sc Try.underlying37 rfl rfl (by kernel_rfl) (fun _ h => by cases h)) ?_
  refine all_cons (ty_sc Try.underlying38 rfl rfl (by kernel_rfl) (fun _ h => by cases h)) ?_
  refine all_cons (ty_sc Try.underlying39 rfl rfl (by kernel_rfl) (fun _ h => by cases h)) ?_
  refine all_cons (ty_sc Try.underlying40 rfl rfl (by kernel_rfl) (fun _ h => by cases h)) ?_
  refine all_cons (ty_sc Try.underlying41 rfl rfl (by kernel_rfl) (fun _ h => by cases h)) ?_
  refine all_cons (ty_sc Try.underlying43 rfl rfl (by kernel_rfl) (fun _ h => by cases h)) ?_
  refine all_cons (ty_sc Try.underlying44 rfl rfl (by kernel_rfl) (fun _ h => by cases h)) ?_
  refine all_cons (ty_sc Try.underlying45 rfl rfl (by kernel_rfl) (fun _ h => by cases h)) ?_
  refine all_cons (ty_struct Try.underlying46 (by decide) (by kernel_rfl) (by kernel_rfl) (by kernel_rfl)) ?_
  refine all_cons (ty_struct Try.underlying47 (by decide) (by kernel_rfl) (by kernel_rfl) (by kernel_rfl)) ?_
  refine all_cons (ty_sc Try.underlying48 rfl rfl (by kernel_rfl) (fun _ h => by cases h)) ?_
  refine all_cons (ty_sc Try.underlying49 rfl rfl (by kernel_rfl) (fun _ h => by cases h)) ?_
  refine all_cons (ty_sc Try.underlying50 rfl rfl (by kernel_rfl) (fun _ h => by cases h)) ?_
  refine all_cons (ty_sc Try.underlying51 rfl rfl (by kernel_rfl) (fun _ h => by cases h)) ?_
  refine all_cons (ty_sc Try.underlying52 rfl rfl (by kernel_rfl) (fun _ h => by cases h)) ?_
  refine all_cons (ty_sc Try.underlying53 rfl rfl (by kernel_rfl) (fun _ h => by cases h)) ?_
  refine all_cons (ty_sc Try.underlying54 rfl rfl (by kernel_rfl) (fun _ h => by cases h)) ?_
  refine all_cons (ty_sc Try.underlying55 rfl rfl (by kernel_rfl) (fun _ h => by cases h)) ?_
  refine all_cons (ty_sc Try.underlying56 rfl rfl (by kernel_rfl) (fun _ h => by cases h)) ?_
  refine all_cons (ty_sc Try.underlying58 rfl rfl (by kernel_rfl) (fun _ h => by cases h)) ?_
  refine all_cons (ty_sc Try.underlying59 rfl rfl (by kernel_rfl) (fun _ h => by cases h)) ?_
  refine all_cons (ty_sc Try.underlying60 rfl rfl (by kernel_rfl) (fun _ h => by cases h)) ?_
  refine all_cons (ty_struct Try.underlying61 (by decide) (by kernel_rfl) (by kernel_rfl) (by kernel_rfl)) ?_
  refine all_cons (ty_struct Try.underlying62 (by decide) (by kernel_rfl) (by kernel_rfl) (by kernel_rfl)) ?_
  refine all_cons (ty_struct Try.underlying63 (by decide) (by kernel_rfl) (by kernel_rfl) (by kernel_rfl)) ?_
  refine all_cons (ty_struct Try.underlying64 (by decide) (by kernel_rfl) (by kernel_rfl) (by kernel_rfl)) ?_
  refine all_cons (ty_sc Try.underlying66 rfl rfl (by kernel_rfl) (fun _ h => by cases h)) ?_
  refine all_cons (ty_sc Try.underlying67 rfl rfl (by kernel_rfl) (fun _ h => by cases h)) ?_
  refine all_cons (ty_sc Try.underlying68 rfl rfl (by kernel_rfl) (fun _ h => by cases h)) ?_
  refine all_cons (ty_sc Try.underlying69 rfl rfl (by kernel_rfl) (fun _ h => by cases h)) ?_
  refine all_cons (ty_sc Try.underlying70 rfl rfl (by kernel_rfl) (fun _ h => by cases h)) ?_
  refine all_cons (ty_sc Try.underlying71 rfl rfl (by kernel_rfl) (fun _ h => by cases h)) ?_
  refine all_cons (ty_sc Try.underlying72 rfl rfl (by kernel_rfl) (fun _ h => by cases h)) ?_
  refine all_cons (ty_sc Try.underlying73 rfl rfl (by kernel_rfl) (fun _ h => by cases h)) ?_
  refine all_cons (ty_sc Try.underlying74 rfl rfl (by kernel_rfl) (fun _ h => by cases h)) ?_
  refine all_cons (ty_sc Try.underlying76 rfl rfl (by kernel_rfl) (fun _ h => by cases h)) ?_
  refine all_cons (ty_sc Try.underlying77 rfl rfl (by kernel_rfl) (fun _ h => by cases h)) ?_
  refine all_cons (ty_sc Try.underlying78 rfl rfl (by kernel_rfl) (fun _ h => by cases h)) ?_
  refine all_cons (ty_sc Try.underlying79 rfl rfl (by kernel_rfl) (fun _ h => by cases h)) ?_
  refine all_cons (ty_sc Try.underlying80 rfl rfl (by kernel_rfl) (fun _ h => by cases h)) ?_
  refine all_cons (ty_sc Try.underlying81 rfl rfl (by kernel_rfl) (fun _ h => by cases h)) ?_
  refine all_cons (ty_sc Try.underlying82 rfl rfl (by kernel_rfl) (fun _ h => by cases h)) ?_
  refine all_cons (ty_sc Try.underlying83 rfl rfl (by kernel_rfl) (fun _ h => by cases h)) ?_
  refine all_cons (ty_sc Try.underlying84 rfl rfl (by kernel_rfl) (fun _ h => by cases h)) ?_
  refine all_cons (ty_sc Try.underlying85 rfl rfl (by kernel_rfl) (fun _ h => by cases h)) ?_
  refine all_cons (ty_sc Try.underlying86 rfl rfl (by kernel_rfl) (fun _ h => by cases h)) ?_
  refine all_cons (ty_sc Try.underlying87 rfl rfl (by kernel_rfl) (fun _ h => by cases h)) ?_
  refine all_cons (ty_sc Try.underlying88 rfl rfl (by kernel_rfl) (fun _ h => by cases h)) ?_
  refine all_cons (ty_sc Try.underlying89 rfl rfl (by kernel_rfl) (fun _ h => by cases h)) ?_
  refine all_cons (ty_sc Try.underlying90 rfl rfl (by kernel_rfl) (fun _ h => by cases h)) ?_
  refine all_cons (ty_sc Try.underlying91 rfl rfl (by kernel_rfl) (fun _ h => by cases h)) ?_
  refine all_cons (ty_sc Try.underlying92 rfl rfl (by kernel_rfl) (fun _ h => by cases h)) ?_
  refine all_cons (ty_sc Try.underlying98 rfl rfl (by kernel_rfl) (fun _ h => by cases h)) ?_
  refine all_cons (ty_sc Try.underlying99 rfl rfl (by kernel_rfl) (fun _ h => by cases h)) ?_
  refine all_cons (ty_sc Try.underlying103 rfl rfl (by kernel_rfl) (fun _ h => by cases h)) ?_
  exact all_nil
end Go.Proofs.Ytngbihfihdheoaa
