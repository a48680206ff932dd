/- The program of this seat, as the abstract machine has it: its functions, its types. Own work. -/
import Derived.Test.YtplanafgphadaaaProg
import Derived.Test.YtplanafgphadaaaAmView
import Derived.KernelRfl
namespace Go.AM.X
open Go Go.AM Go.Proofs Go.AM.Sx
noncomputable def F := Fof Try.prog
noncomputable def T := tiOf Try.prog
theorem hT : TAgree Try.prog T := tiOf_agree _
theorem hF : FAgree Try.prog F := Fof_agree _
theorem hmix : Try.prog.follows .mixedOrders = true := by decide +kernel
noncomputable def tt3 : TI := (T 3).getD ⟨.bool, 0, 0, [], false, [], []⟩
theorem T3 : T 3 = some tt3 := by kernel_rfl
theorem d3 : tt3.desc = .int .i64 := by kernel_rfl
theorem s3 : tt3.size = 1 := by kernel_rfl
theorem b3 : tt3.bytes = 8 := by kernel_rfl
theorem a3 : tt3.agg = false := by kernel_rfl
theorem z3 : tt3.zero = [.int .i64 0] := by kernel_rfl
noncomputable def tt4 : TI := (T 4).getD ⟨.bool, 0, 0, [], false, [], []⟩
theorem T4 : T 4 = some tt4 := by kernel_rfl
theorem d4 : tt4.desc = .bool := by kernel_rfl
theorem s4 : tt4.size = 1 := by kernel_rfl
theorem b4 : tt4.bytes = 1 := by kernel_rfl
theorem a4 : tt4.agg = false := by kernel_rfl
theorem z4 : tt4.zero = [.bool false] := by kernel_rfl
noncomputable def tt23 : TI := (T 23).getD ⟨.bool, 0, 0, [], false, [], []⟩
theorem T23 : T 23 = some tt23 := by kernel_rfl
theorem d23 : tt23.desc = .struct (fieldsD tt23.desc).toArray := by kernel_rfl
theorem s23 : tt23.size = 3 := by kernel_rfl
theorem b23 : tt23.bytes = 24 := by kernel_rfl
theorem a23 : tt23.agg = true := by kernel_rfl
theorem z23 : tt23.zero = [.int .i64 0, .int .i64 0, .int .i64 0] := by kernel_rfl
theorem p23_0 : tt23.places[0]? = some (0, 1, false) := by kernel_rfl
theorem p23_1 : tt23.places[1]? = some (1, 1, false) := by kernel_rfl
theorem p23_2 : tt23.places[2]? = some (2, 1, false) := by kernel_rfl
noncomputable def tt72 : TI := (T 72).getD ⟨.bool, 0, 0, [], false, [], []⟩
theorem T72 : T 72 = some tt72 := by kernel_rfl
theorem d72 : tt72.desc = .struct (fieldsD tt72.desc).toArray := by kernel_rfl
theorem s72 : tt72.size = 11 := by kernel_rfl
theorem b72 : tt72.bytes = 152 := by kernel_rfl
theorem a72 : tt72.agg = true := by kernel_rfl
theorem z72 : tt72.zero = [.int .i64 0, .int .i64 0, .int .i64 0, .nils, .int .i64 0, .nils, .int .i64 0, .nils, .int .i64 0, .nils, .int .i64 0] := by kernel_rfl
theorem p72_0 : tt72.places[0]? = some (0, 1, false) := by kernel_rfl
theorem p72_1 : tt72.places[1]? = some (1, 1, false) := by kernel_rfl
theorem p72_2 : tt72.places[2]? = some (2, 1, false) := by kernel_rfl
theorem p72_3 : tt72.places[3]? = some (3, 1, false) := by kernel_rfl
theorem p72_4 : tt72.places[4]? = some (4, 1, false) := by kernel_rfl
theorem p72_5 : tt72.places[5]? = some (5, 1, false) := by kernel_rfl
theorem p72_6 : tt72.places[6]? = some (6, 1, false) := by kernel_rfl
theorem p72_7 : tt72.places[7]? = some (7, 1, false) := by kernel_rfl
theorem p72_8 : tt72.places[8]? = some (8, 1, false) := by kernel_rfl
theorem p72_9 : tt72.places[9]? = some (9, 1, false) := by kernel_rfl
theorem p72_10 : tt72.places[10]? = some (10, 1, false) := by kernel_rfl
noncomputable def tt78 : TI := (T 78).getD ⟨.bool, 0, 0, [], false, [], []⟩
theorem T78 : T 78 = some tt78 := by kernel_rfl
theorem d78 : tt78.desc = .struct (fieldsD tt78.desc).toArray := by kernel_rfl
theorem s78 : tt78.size = 11 := by kernel_rfl
theorem b78 : tt78.bytes = 168 := by kernel_rfl
theorem a78 : tt78.agg = true := by kernel_rfl
theorem z78 : tt78.zero = [.int .i64 0, .int .i64 0, .int .i64 0, .nils, .nils, .nils, .int .i64 0, .int .i64 0, .int .i64 0, .nils, .nils] := by kernel_rfl
theorem p78_0 : tt78.places[0]? = some (0, 1, false) := by kernel_rfl
theorem p78_1 : tt78.places[1]? = some (1, 1, false) := by kernel_rfl
theorem p78_2 : tt78.places[2]? = some (2, 1, false) := by kernel_rfl
theorem p78_3 : tt78.places[3]? = some (3, 1, false) := by kernel_rfl
theorem p78_4 : tt78.places[4]? = some (4, 1, false) := by kernel_rfl
theorem p78_5 : tt78.places[5]? = some (5, 1, false) := by kernel_rfl
theorem p78_6 : tt78.places[6]? = some (6, 1, false) := by kernel_rfl
theorem p78_7 : tt78.places[7]? = some (7, 1, false) := by kernel_rfl
theorem p78_8 : tt78.places[8]? = some (8, 1, false) := by kernel_rfl
theorem p78_9 : tt78.places[9]? = some (9, 1, false) := by kernel_rfl
theorem p78_10 : tt78.places[10]? = some (10, 1, false) := by kernel_rfl
end Go.AM.X
