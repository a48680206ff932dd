/- The program of this seat, as the abstract machine has it: its functions, its types. Own work. -/
import Derived.Test.YtdehanhonfbdpaaProg
import Derived.Test.YtdehanhonfbdpaaAmView
import Derived.KernelRfl
namespace Go.AM.X
open Go Go.AM Go.Proofs Go.AM.Sx
noncomputable def F := Fof Try.prog
noncomputable def T := tiOf Try.prog
theorem hT : TAgree Try.prog T := tiOf_agree _
theorem hF : FAgree Try.prog F := Fof_agree _
theorem hmix : Try.prog.follows .mixedOrders = true := by decide +kernel
noncomputable def tt3 : TI := (T 3).getD ⟨.bool, 0, 0, [], false, [], []⟩
theorem T3 : T 3 = some tt3 := by kernel_rfl
theorem d3 : tt3.desc = .int .i64 := by kernel_rfl
theorem s3 : tt3.size = 1 := by kernel_rfl
theorem b3 : tt3.bytes = 8 := by kernel_rfl
theorem a3 : tt3.agg = false := by kernel_rfl
theorem z3 : tt3.zero = [.int .i64 (0)] := by kernel_rfl
noncomputable def tt4 : TI := (T 4).getD ⟨.bool, 0, 0, [], false, [], []⟩
theorem T4 : T 4 = some tt4 := by kernel_rfl
theorem d4 : tt4.desc = .bool := by kernel_rfl
theorem s4 : tt4.size = 1 := by kernel_rfl
theorem b4 : tt4.bytes = 1 := by kernel_rfl
theorem a4 : tt4.agg = false := by kernel_rfl
theorem z4 : tt4.zero = [.bool false] := by kernel_rfl
noncomputable def tt5 : TI := (T 5).getD ⟨.bool, 0, 0, [], false, [], []⟩
theorem T5 : T 5 = some tt5 := by kernel_rfl
theorem d5 : tt5.desc = .int .u8 := by kernel_rfl
theorem s5 : tt5.size = 1 := by kernel_rfl
theorem b5 : tt5.bytes = 1 := by kernel_rfl
theorem a5 : tt5.agg = false := by kernel_rfl
theorem z5 : tt5.zero = [.int .u8 (0)] := by kernel_rfl
noncomputable def tt9 : TI := (T 9).getD ⟨.bool, 0, 0, [], false, [], []⟩
theorem T9 : T 9 = some tt9 := by kernel_rfl
theorem d9 : tt9.desc = .string := by kernel_rfl
theorem s9 : tt9.size = 1 := by kernel_rfl
theorem b9 : tt9.bytes = 16 := by kernel_rfl
theorem a9 : tt9.agg = false := by kernel_rfl
theorem z9 : tt9.zero = [.str []] := by kernel_rfl
noncomputable def tt22 : TI := (T 22).getD ⟨.bool, 0, 0, [], false, [], []⟩
theorem T22 : T 22 = some tt22 := by kernel_rfl
theorem d22 : tt22.desc = .slice 3 := by kernel_rfl
theorem s22 : tt22.size = 1 := by kernel_rfl
theorem b22 : tt22.bytes = 24 := by kernel_rfl
theorem a22 : tt22.agg = false := by kernel_rfl
theorem z22 : tt22.zero = [.nils] := by kernel_rfl
noncomputable def tt23 : TI := (T 23).getD ⟨.bool, 0, 0, [], false, [], []⟩
theorem T23 : T 23 = some tt23 := by kernel_rfl
theorem d23 : tt23.desc = .slice 9 := by kernel_rfl
theorem s23 : tt23.size = 1 := by kernel_rfl
theorem b23 : tt23.bytes = 24 := by kernel_rfl
theorem a23 : tt23.agg = false := by kernel_rfl
theorem z23 : tt23.zero = [.nils] := by kernel_rfl
noncomputable def tt25 : TI := (T 25).getD ⟨.bool, 0, 0, [], false, [], []⟩
theorem T25 : T 25 = some tt25 := by kernel_rfl
theorem d25 : tt25.desc = .slice 5 := by kernel_rfl
theorem s25 : tt25.size = 1 := by kernel_rfl
theorem b25 : tt25.bytes = 24 := by kernel_rfl
theorem a25 : tt25.agg = false := by kernel_rfl
theorem z25 : tt25.zero = [.nils] := by kernel_rfl
noncomputable def tt26 : TI := (T 26).getD ⟨.bool, 0, 0, [], false, [], []⟩
theorem T26 : T 26 = some tt26 := by kernel_rfl
theorem d26 : tt26.desc = .int .i64 := by kernel_rfl
theorem s26 : tt26.size = 1 := by kernel_rfl
theorem b26 : tt26.bytes = 8 := by kernel_rfl
theorem a26 : tt26.agg = false := by kernel_rfl
theorem z26 : tt26.zero = [.int .i64 (0)] := by kernel_rfl
noncomputable def tt30 : TI := (T 30).getD ⟨.bool, 0, 0, [], false, [], []⟩
theorem T30 : T 30 = some tt30 := by kernel_rfl
theorem d30 : tt30.desc = .slice 25 := by kernel_rfl
theorem s30 : tt30.size = 1 := by kernel_rfl
theorem b30 : tt30.bytes = 24 := by kernel_rfl
theorem a30 : tt30.agg = false := by kernel_rfl
theorem z30 : tt30.zero = [.nils] := by kernel_rfl
noncomputable def tt48 : TI := (T 48).getD ⟨.bool, 0, 0, [], false, [], []⟩
theorem T48 : T 48 = some tt48 := by kernel_rfl
theorem d48 : tt48.desc = .struct (fieldsD tt48.desc).toArray := by kernel_rfl
theorem s48 : tt48.size = 3 := by kernel_rfl
theorem b48 : tt48.bytes = 48 := by kernel_rfl
theorem a48 : tt48.agg = true := by kernel_rfl
theorem z48 : tt48.zero = [.str [], .str [], .str []] := by kernel_rfl
theorem p48_0 : tt48.places[0]? = some (0, 1, false) := by kernel_rfl
theorem p48_1 : tt48.places[1]? = some (1, 1, false) := by kernel_rfl
theorem p48_2 : tt48.places[2]? = some (2, 1, false) := by kernel_rfl
noncomputable def tt57 : TI := (T 57).getD ⟨.bool, 0, 0, [], false, [], []⟩
theorem T57 : T 57 = some tt57 := by kernel_rfl
theorem d57 : tt57.desc = .slice 70 := by kernel_rfl
theorem s57 : tt57.size = 1 := by kernel_rfl
theorem b57 : tt57.bytes = 24 := by kernel_rfl
theorem a57 : tt57.agg = false := by kernel_rfl
theorem z57 : tt57.zero = [.nils] := by kernel_rfl
noncomputable def tt68 : TI := (T 68).getD ⟨.bool, 0, 0, [], false, [], []⟩
theorem T68 : T 68 = some tt68 := by kernel_rfl
theorem d68 : tt68.desc = .struct (fieldsD tt68.desc).toArray := by kernel_rfl
theorem s68 : tt68.size = 2 := by kernel_rfl
theorem b68 : tt68.bytes = 16 := by kernel_rfl
theorem a68 : tt68.agg = true := by kernel_rfl
theorem z68 : tt68.zero = [.int .i64 (0), .int .i64 (0)] := by kernel_rfl
theorem p68_0 : tt68.places[0]? = some (0, 1, false) := by kernel_rfl
theorem p68_1 : tt68.places[1]? = some (1, 1, false) := by kernel_rfl
noncomputable def tt70 : TI := (T 70).getD ⟨.bool, 0, 0, [], false, [], []⟩
theorem T70 : T 70 = some tt70 := by kernel_rfl
theorem d70 : tt70.desc = .struct (fieldsD tt70.desc).toArray := by kernel_rfl
theorem s70 : tt70.size = 7 := by kernel_rfl
theorem b70 : tt70.bytes = 80 := by kernel_rfl
theorem a70 : tt70.agg = true := by kernel_rfl
theorem z70 : tt70.zero = [.str [], .str [], .str [], .int .i64 (0), .int .i64 (0), .int .i64 (0), .int .i64 (0)] := by kernel_rfl
theorem p70_0 : tt70.places[0]? = some (0, 3, true) := by kernel_rfl
theorem p70_1 : tt70.places[1]? = some (3, 2, true) := by kernel_rfl
theorem p70_2 : tt70.places[2]? = some (5, 1, false) := by kernel_rfl
theorem p70_3 : tt70.places[3]? = some (6, 1, false) := by kernel_rfl
noncomputable def tt88 : TI := (T 88).getD ⟨.bool, 0, 0, [], false, [], []⟩
theorem T88 : T 88 = some tt88 := by kernel_rfl
theorem d88 : tt88.desc = .struct (fieldsD tt88.desc).toArray := by kernel_rfl
theorem s88 : tt88.size = 3 := by kernel_rfl
theorem b88 : tt88.bytes = 40 := by kernel_rfl
theorem a88 : tt88.agg = true := by kernel_rfl
theorem z88 : tt88.zero = [.nils, .int .i64 (0), .int .i64 (0)] := by kernel_rfl
theorem p88_0 : tt88.places[0]? = some (0, 1, false) := by kernel_rfl
theorem p88_1 : tt88.places[1]? = some (1, 1, false) := by kernel_rfl
theorem p88_2 : tt88.places[2]? = some (2, 1, false) := by kernel_rfl
noncomputable def tt94 : TI := (T 94).getD ⟨.bool, 0, 0, [], false, [], []⟩
theorem T94 : T 94 = some tt94 := by kernel_rfl
theorem d94 : tt94.desc = .struct (fieldsD tt94.desc).toArray := by kernel_rfl
theorem s94 : tt94.size = 3 := by kernel_rfl
theorem b94 : tt94.bytes = 40 := by kernel_rfl
theorem a94 : tt94.agg = true := by kernel_rfl
theorem z94 : tt94.zero = [.nils, .int .i64 (0), .int .i64 (0)] := by kernel_rfl
theorem p94_0 : tt94.places[0]? = some (0, 1, false) := by kernel_rfl
theorem p94_1 : tt94.places[1]? = some (1, 1, false) := by kernel_rfl
theorem p94_2 : tt94.places[2]? = some (2, 1, false) := by kernel_rfl
noncomputable def tt101 : TI := (T 101).getD ⟨.bool, 0, 0, [], false, [], []⟩
theorem T101 : T 101 = some tt101 := by kernel_rfl
theorem d101 : tt101.desc = .slice 23 := by kernel_rfl
theorem s101 : tt101.size = 1 := by kernel_rfl
theorem b101 : tt101.bytes = 24 := by kernel_rfl
theorem a101 : tt101.agg = false := by kernel_rfl
theorem z101 : tt101.zero = [.nils] := by kernel_rfl
noncomputable def tt103 : TI := (T 103).getD ⟨.bool, 0, 0, [], false, [], []⟩
theorem T103 : T 103 = some tt103 := by kernel_rfl
theorem d103 : tt103.desc = .int .u64 := by kernel_rfl
theorem s103 : tt103.size = 1 := by kernel_rfl
theorem b103 : tt103.bytes = 8 := by kernel_rfl
theorem a103 : tt103.agg = false := by kernel_rfl
theorem z103 : tt103.zero = [.int .u64 (0)] := by kernel_rfl
noncomputable def tt108 : TI := (T 108).getD ⟨.bool, 0, 0, [], false, [], []⟩
theorem T108 : T 108 = some tt108 := by kernel_rfl
theorem d108 : tt108.desc = .struct (fieldsD tt108.desc).toArray := by kernel_rfl
theorem s108 : tt108.size = 3 := by kernel_rfl
theorem b108 : tt108.bytes = 40 := by kernel_rfl
theorem a108 : tt108.agg = true := by kernel_rfl
theorem z108 : tt108.zero = [.nils, .int .i64 (0), .int .i64 (0)] := by kernel_rfl
theorem p108_0 : tt108.places[0]? = some (0, 1, false) := by kernel_rfl
theorem p108_1 : tt108.places[1]? = some (1, 1, false) := by kernel_rfl
theorem p108_2 : tt108.places[2]? = some (2, 1, false) := by kernel_rfl
noncomputable def tt117 : TI := (T 117).getD ⟨.bool, 0, 0, [], false, [], []⟩
theorem T117 : T 117 = some tt117 := by kernel_rfl
theorem d117 : tt117.desc = .int .u16 := by kernel_rfl
theorem s117 : tt117.size = 1 := by kernel_rfl
theorem b117 : tt117.bytes = 2 := by kernel_rfl
theorem a117 : tt117.agg = false := by kernel_rfl
theorem z117 : tt117.zero = [.int .u16 (0)] := by kernel_rfl
noncomputable def tt127 : TI := (T 127).getD ⟨.bool, 0, 0, [], false, [], []⟩
theorem T127 : T 127 = some tt127 := by kernel_rfl
theorem d127 : tt127.desc = .array 3 3 := by kernel_rfl
theorem s127 : tt127.size = 3 := by kernel_rfl
theorem b127 : tt127.bytes = 24 := by kernel_rfl
theorem a127 : tt127.agg = true := by kernel_rfl
theorem z127 : tt127.zero = [.int .i64 (0), .int .i64 (0), .int .i64 (0)] := by kernel_rfl
noncomputable def tt128 : TI := (T 128).getD ⟨.bool, 0, 0, [], false, [], []⟩
theorem T128 : T 128 = some tt128 := by kernel_rfl
theorem d128 : tt128.desc = .array 3 9 := by kernel_rfl
theorem s128 : tt128.size = 3 := by kernel_rfl
theorem b128 : tt128.bytes = 48 := by kernel_rfl
theorem a128 : tt128.agg = true := by kernel_rfl
theorem z128 : tt128.zero = [.str [], .str [], .str []] := by kernel_rfl
end Go.AM.X
