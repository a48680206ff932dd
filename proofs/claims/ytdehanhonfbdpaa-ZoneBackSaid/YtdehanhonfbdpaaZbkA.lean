/- The program of this seat, as the abstract machine has it: its functions, its types. Own work. -/
import Derived.Test.YtdehanhonfbdpaaProg
import Derived.Test.YtdehanhonfbdpaaAmView
import Derived.KernelRfl
namespace Go.AM.X
open Go Go.AM Go.Proofs Go.AM.Sx
noncomputable def F := Fof Try.prog
noncomputable def T := tiOf Try.prog
theorem hT : TAgree Try.prog T := tiOf_agree _
theorem hF : FAgree Try.prog F := Fof_agree _
theorem hmix : Try.prog.follows .mixedOrders = true := by decide +kernel
noncomputable def tt3 : TI := (T 3).getD ⟨.bool, 0, 0, [], false, [], []⟩
theorem T3 : T 3 = some tt3 := by kernel_rfl
theorem d3 : tt3.desc = .int .i64 := by kernel_rfl
theorem s3 : tt3.size = 1 := by kernel_rfl
theorem b3 : tt3.bytes = 8 := by kernel_rfl
theorem a3 : tt3.agg = false := by kernel_rfl
theorem z3 : tt3.zero = [.int .i64 0] := by kernel_rfl
noncomputable def tt5 : TI := (T 5).getD ⟨.bool, 0, 0, [], false, [], []⟩
theorem T5 : T 5 = some tt5 := by kernel_rfl
theorem d5 : tt5.desc = .int .u8 := by kernel_rfl
theorem s5 : tt5.size = 1 := by kernel_rfl
theorem b5 : tt5.bytes = 1 := by kernel_rfl
theorem a5 : tt5.agg = false := by kernel_rfl
theorem z5 : tt5.zero = [.int .u8 0] := by kernel_rfl
noncomputable def tt9 : TI := (T 9).getD ⟨.bool, 0, 0, [], false, [], []⟩
theorem T9 : T 9 = some tt9 := by kernel_rfl
theorem d9 : tt9.desc = .string := by kernel_rfl
theorem s9 : tt9.size = 1 := by kernel_rfl
theorem b9 : tt9.bytes = 16 := by kernel_rfl
theorem a9 : tt9.agg = false := by kernel_rfl
theorem z9 : tt9.zero = [.str []] := by kernel_rfl
noncomputable def tt22 : TI := (T 22).getD ⟨.bool, 0, 0, [], false, [], []⟩
theorem T22 : T 22 = some tt22 := by kernel_rfl
theorem d22 : tt22.desc = .slice 3 := by kernel_rfl
noncomputable def tt23 : TI := (T 23).getD ⟨.bool, 0, 0, [], false, [], []⟩
theorem T23 : T 23 = some tt23 := by kernel_rfl
theorem d23 : tt23.desc = .slice 9 := by kernel_rfl
theorem s23 : tt23.size = 1 := by kernel_rfl
theorem b23 : tt23.bytes = 24 := by kernel_rfl
theorem a23 : tt23.agg = false := by kernel_rfl
theorem z23 : tt23.zero = [.nils] := by kernel_rfl
noncomputable def tt25 : TI := (T 25).getD ⟨.bool, 0, 0, [], false, [], []⟩
theorem T25 : T 25 = some tt25 := by kernel_rfl
theorem d25 : tt25.desc = .slice 5 := by kernel_rfl
theorem s25 : tt25.size = 1 := by kernel_rfl
theorem b25 : tt25.bytes = 24 := by kernel_rfl
theorem a25 : tt25.agg = false := by kernel_rfl
theorem z25 : tt25.zero = [.nils] := by kernel_rfl
noncomputable def tt26 : TI := (T 26).getD ⟨.bool, 0, 0, [], false, [], []⟩
theorem T26 : T 26 = some tt26 := by kernel_rfl
theorem s26 : tt26.size = 1 := by kernel_rfl
theorem a26 : tt26.agg = false := by kernel_rfl
noncomputable def tt30 : TI := (T 30).getD ⟨.bool, 0, 0, [], false, [], []⟩
theorem T30 : T 30 = some tt30 := by kernel_rfl
theorem d30 : tt30.desc = .slice 25 := by kernel_rfl
theorem s30 : tt30.size = 1 := by kernel_rfl
theorem a30 : tt30.agg = false := by kernel_rfl
theorem z30 : tt30.zero = [.nils] := by kernel_rfl
noncomputable def tt88 : TI := (T 88).getD ⟨.bool, 0, 0, [], false, [], []⟩
theorem T88 : T 88 = some tt88 := by kernel_rfl
theorem d88 : tt88.desc = .struct (fieldsD tt88.desc).toArray := by kernel_rfl
theorem z88 : tt88.zero = [.nils, .int .i64 0, .int .i64 0] := by kernel_rfl
theorem p88_0 : tt88.places[0]? = some (0, 1, false) := by kernel_rfl
theorem p88_1 : tt88.places[1]? = some (1, 1, false) := by kernel_rfl
theorem p88_2 : tt88.places[2]? = some (2, 1, false) := by kernel_rfl
noncomputable def tt101 : TI := (T 101).getD ⟨.bool, 0, 0, [], false, [], []⟩
theorem T101 : T 101 = some tt101 := by kernel_rfl
theorem d101 : tt101.desc = .slice 23 := by kernel_rfl
noncomputable def tt117 : TI := (T 117).getD ⟨.bool, 0, 0, [], false, [], []⟩
theorem T117 : T 117 = some tt117 := by kernel_rfl
theorem d117 : tt117.desc = .int .u16 := by kernel_rfl
end Go.AM.X
namespace Go.AM.X
open Go Go.AM Go.Proofs Go.AM.Sx
set_option maxHeartbeats 400000
set_option maxRecDepth 100000
set_option linter.unusedVariables false
theorem F96 : F 96 = some { body := (Try.f96.body.getD .skip), results := Try.f96.results.toList, rf := false } := by kernel_rfl
theorem R96 : regsOk T (Try.f96.body.getD .skip) = true := by kernel_rfl
theorem F113 : F 113 = some { body := (Try.f113.body.getD .skip), results := Try.f113.results.toList, rf := false } := by kernel_rfl
theorem R113 : regsOk T (Try.f113.body.getD .skip) = true := by kernel_rfl
theorem F95 : F 95 = some { body := (Try.f95.body.getD .skip), results := Try.f95.results.toList, rf := false } := by kernel_rfl
theorem R95 : regsOk T (Try.f95.body.getD .skip) = true := by kernel_rfl
theorem F51 : F 51 = some { body := (Try.f51.body.getD .skip), results := Try.f51.results.toList, rf := false } := by kernel_rfl
theorem R51 : regsOk T (Try.f51.body.getD .skip) = true := by kernel_rfl
theorem F61 : F 61 = some { body := (Try.f61.body.getD .skip), results := Try.f61.results.toList, rf := false } := by kernel_rfl
theorem R61 : regsOk T (Try.f61.body.getD .skip) = true := by kernel_rfl
theorem F22 : F 22 = some { body := (Try.f22.body.getD .skip), results := Try.f22.results.toList, rf := false } := by kernel_rfl
theorem R22 : regsOk T (Try.f22.body.getD .skip) = true := by kernel_rfl
theorem F23 : F 23 = some { body := (Try.f23.body.getD .skip), results := Try.f23.results.toList, rf := false } := by kernel_rfl
theorem R23 : regsOk T (Try.f23.body.getD .skip) = true := by kernel_rfl
theorem F50 : F 50 = some { body := (Try.f50.body.getD .skip), results := Try.f50.results.toList, rf := false } := by kernel_rfl
theorem R50 : regsOk T (Try.f50.body.getD .skip) = true := by kernel_rfl
theorem F54 : F 54 = some { body := (Try.f54.body.getD .skip), results := Try.f54.results.toList, rf := false } := by kernel_rfl
theorem R54 : regsOk T (Try.f54.body.getD .skip) = true := by kernel_rfl
theorem F56 : F 56 = some { body := (Try.f56.body.getD .skip), results := Try.f56.results.toList, rf := false } := by kernel_rfl
theorem R56 : regsOk T (Try.f56.body.getD .skip) = true := by kernel_rfl
theorem F117 : F 117 = some { body := (Try.f117.body.getD .skip), results := Try.f117.results.toList, rf := false } := by kernel_rfl
theorem R117 : regsOk T (Try.f117.body.getD .skip) = true := by kernel_rfl
theorem F99 : F 99 = some { body := (Try.f99.body.getD .skip), results := Try.f99.results.toList, rf := false } := by kernel_rfl
theorem R99 : regsOk T (Try.f99.body.getD .skip) = true := by kernel_rfl
theorem F100 : F 100 = some { body := (Try.f100.body.getD .skip), results := Try.f100.results.toList, rf := false } := by kernel_rfl
theorem R100 : regsOk T (Try.f100.body.getD .skip) = true := by kernel_rfl
/-- Networks. -/
def isNet (n : Int) : Bool := decide (1 ≤ n) && decide (n ≤ 65279)
theorem K51 {I : Nat → Option (List AV → AH → Rs)} (h51 : I 51 = none) (m : Nat) (n : Int) (h : AH) : call F I T (m + 1) 51 [.int .i64 n] h = some (.bool (isNet n), h) := by
  rw [call_F (by decide) h51 F51 rfl R51]; simp only [Try.f51, Option.getD]
  simp +contextual (maxSteps := 3000000) only [↓code_seq, ↓code_region, ↓code_ret, ↓ops_nil, ↓ops_cons, run_none, run_someT, ↓run0_v, ↓seqK_normal, ↓retK_ret, put_same, put_ne, env0_at, ev_tmp, ev_const, oc_int, oc_bool, o_move, o_assign, o_pick, o_bin, g_none, g_some, pick_bool, bin_leq, bin_geq, resultsOf, oneOrAll, Option.bind_some, Option.map_some, Option.getD_some, decide_eq_true_eq, ↓reduceIte, Nat.reduceEqDiff, not_false_eq_true, reduceCtorEq, List.getElem?_cons_zero, List.getElem?_cons_succ, List.getElem?_toArray, ge_iff_le, ne_eq, isNet]
  (repeat' split) <;> (try simp_all) <;> (try omega)
theorem K61 {I : Nat → Option (List AV → AH → Rs)} (h61 : I 61 = none) (m : Nat) (n : Int) (h : AH) : call F I T (m + 1) 61 [.int .i64 n] h = some (.bool (isNet n), h) := by
  rw [call_F (by decide) h61 F61 rfl R61]; simp only [Try.f61, Option.getD]
  simp +contextual (maxSteps := 3000000) only [↓code_seq, ↓code_region, ↓code_ret, ↓ops_nil, ↓ops_cons, run_none, run_someT, ↓run0_v, ↓seqK_normal, ↓retK_ret, put_same, put_ne, env0_at, ev_tmp, ev_const, oc_int, oc_bool, o_move, o_assign, o_pick, o_bin, g_none, g_some, pick_bool, bin_leq, bin_geq, resultsOf, oneOrAll, Option.bind_some, Option.map_some, Option.getD_some, decide_eq_true_eq, ↓reduceIte, Nat.reduceEqDiff, not_false_eq_true, reduceCtorEq, List.getElem?_cons_zero, List.getElem?_cons_succ, List.getElem?_toArray, ge_iff_le, ne_eq, isNet]
  (repeat' split) <;> (try simp_all) <;> (try omega)
theorem K50 {I : Nat → Option (List AV → AH → Rs)} (h51 : I 51 = none) (h50 : I 50 = none) (m : Nat) (n : Int) (h : AH) : call F I T (m + 2) 50 [.int .i64 n] h = some (.bool (!isNet n), h) := by
  rw [call_F (by decide) h50 F50 rfl R50]; simp only [Try.f50, Option.getD]
  simp +contextual (maxSteps := 3000000) only [↓code_seq, ↓code_region, ↓code_ret, ↓ops_nil, ↓ops_cons, run_none, ↓run0_v, ↓run0_r, ↓seqK_normal, ↓retK_ret, put_same, put_ne, env0_at, ev_tmp, ev_const, ev_func, oc_bool, o_move, o_assign, o_call, o_un, g_none, un_not, resultsOf, oneOrAll, Option.map_some, Option.getD_some, not_false_eq_true, reduceCtorEq, List.getElem?_cons_zero, List.map_cons, List.map_nil, List.append_nil, List.nil_append, ne_eq, callV_fn (g := 51) (by decide), K51 h51]
theorem K54 {I : Nat → Option (List AV → AH → Rs)} (h51 : I 51 = none) (h54 : I 54 = none) (m : Nat) (n : Int) (h : AH) : call F I T (m + 2) 54 [.int .i64 n] h = some (.bool (!isNet n), h) := by
  rw [call_F (by decide) h54 F54 rfl R54]; simp only [Try.f54, Option.getD]
  simp +contextual (maxSteps := 3000000) only [↓code_seq, ↓code_region, ↓code_ret, ↓ops_nil, ↓ops_cons, run_none, ↓run0_v, ↓run0_r, ↓seqK_normal, ↓retK_ret, put_same, put_ne, env0_at, ev_tmp, ev_const, ev_func, oc_bool, o_move, o_assign, o_call, o_un, g_none, un_not, resultsOf, oneOrAll, Option.map_some, Option.getD_some, not_false_eq_true, reduceCtorEq, List.getElem?_cons_zero, List.map_cons, List.map_nil, List.append_nil, List.nil_append, ne_eq, callV_fn (g := 51) (by decide), K51 h51]
/-- Zones. -/
def isZone (s : List UInt8) : Bool := decide (1 ≤ s.length) && decide (s.length ≤ 31) && !decide (s = [42])
theorem le_cast1 (a : Nat) : (1 ≤ (a : Int)) = (1 ≤ a) := by simp; omega
theorem le_cast31 (a : Nat) : ((a : Int) ≤ 31) = (a ≤ 31) := by simp; omega
theorem K22 {I : Nat → Option (List AV → AH → Rs)} (h22 : I 22 = none) (m : Nat) (s : List UInt8) (h : AH) : call F I T (m + 1) 22 [.str s] h = some (.bool (isZone s), h) := by
  rw [call_F (by decide) h22 F22 rfl R22]; simp only [Try.f22, Option.getD]
  simp +contextual (maxSteps := 3000000) only [↓code_seq, ↓code_region, ↓code_ret, ↓ops_nil, ↓ops_cons, run_none, run_someT, ↓run0_v, ↓seqK_normal, ↓retK_ret, put_same, put_ne, env0_at, ev_tmp, ev_const, oc_int, oc_bool, oc_str, o_move, o_assign, o_pick, o_bin, o_len, g_none, g_some, pick_bool, bin_leq, bin_geq, str_neq, resultsOf, oneOrAll, Option.bind_some, Option.map_some, Option.getD_some, decide_eq_true_eq, ↓reduceIte, Nat.reduceEqDiff, not_false_eq_true, reduceCtorEq, List.getElem?_cons_zero, List.getElem?_cons_succ, List.getElem?_toArray, Bool.false_eq_true, ge_iff_le, ne_eq, len_str T9 d9, isZone, le_cast1, le_cast31]
  (repeat' split) <;> (try simp_all) <;> (try omega)
theorem K23 {I : Nat → Option (List AV → AH → Rs)} (h23 : I 23 = none) (m : Nat) (s : List UInt8) (h : AH) : call F I T (m + 1) 23 [.str s] h = some (.bool (isZone s), h) := by
  rw [call_F (by decide) h23 F23 rfl R23]; simp only [Try.f23, Option.getD]
  simp +contextual (maxSteps := 3000000) only [↓code_seq, ↓code_region, ↓code_ret, ↓ops_nil, ↓ops_cons, run_none, run_someT, ↓run0_v, ↓seqK_normal, ↓retK_ret, put_same, put_ne, env0_at, ev_tmp, ev_const, oc_int, oc_bool, oc_str, o_move, o_assign, o_pick, o_bin, o_len, g_none, g_some, pick_bool, bin_leq, bin_geq, str_neq, resultsOf, oneOrAll, Option.bind_some, Option.map_some, Option.getD_some, decide_eq_true_eq, ↓reduceIte, Nat.reduceEqDiff, not_false_eq_true, reduceCtorEq, List.getElem?_cons_zero, List.getElem?_cons_succ, List.getElem?_toArray, Bool.false_eq_true, ge_iff_le, ne_eq, len_str T9 d9, isZone, le_cast1, le_cast31]
  (repeat' split) <;> (try simp_all) <;> (try omega)
theorem K56 {I : Nat → Option (List AV → AH → Rs)} (h22 : I 22 = none) (h56 : I 56 = none) (m : Nat) (n : List UInt8) (h : AH) : call F I T (m + 2) 56 [.str n] h = some (.bool (!isZone n), h) := by
  rw [call_F (by decide) h56 F56 rfl R56]; simp only [Try.f56, Option.getD]
  simp +contextual (maxSteps := 3000000) only [↓code_seq, ↓code_region, ↓code_ret, ↓ops_nil, ↓ops_cons, run_none, ↓run0_v, ↓run0_r, ↓seqK_normal, ↓retK_ret, put_same, put_ne, env0_at, ev_tmp, ev_const, ev_func, oc_bool, o_move, o_assign, o_call, o_un, g_none, un_not, resultsOf, oneOrAll, Option.map_some, Option.getD_some, not_false_eq_true, reduceCtorEq, List.getElem?_cons_zero, List.map_cons, List.map_nil, List.append_nil, List.nil_append, ne_eq, callV_fn (g := 22) (by decide), K22 h22]
/-- Widths. -/
def isWidth (n : Int) : Bool := decide (n = 1) || decide (n = 2) || decide (n = 4)
theorem K117 {I : Nat → Option (List AV → AH → Rs)} (h117 : I 117 = none) (m : Nat) (n : Int) (h : AH) : call F I T (m + 1) 117 [.int .i64 n] h = some (.bool (isWidth n), h) := by
  rw [call_F (by decide) h117 F117 rfl R117]; simp only [Try.f117, Option.getD]
  simp +contextual (maxSteps := 3000000) only [↓code_seq, ↓code_region, ↓code_ret, ↓ops_nil, ↓ops_cons, run_none, run_someF, ↓run0_v, ↓seqK_normal, ↓retK_ret, put_same, put_ne, env0_at, ev_tmp, ev_const, oc_int, oc_bool, o_move, o_assign, o_pick, o_bin, g_none, g_some, pick_bool, bin_eql, resultsOf, oneOrAll, Option.bind_some, Option.map_some, Option.getD_some, decide_eq_true_eq, ↓reduceIte, Nat.reduceEqDiff, not_false_eq_true, reduceCtorEq, List.getElem?_cons_zero, List.getElem?_cons_succ, List.getElem?_toArray, ne_eq, isWidth]
  (repeat' split) <;> (try simp_all) <;> (try omega)
/-- Bytes, folded. -/
def foldN (c : UInt8) : UInt8 := if 97 ≤ c.toNat ∧ c.toNat ≤ 122 then c - 32 else if 160 ≤ c.toNat ∧ c.toNat ≤ 191 then c + 32 else c
theorem byte_all {p : UInt8 → Bool} (h : ((List.range 256).all fun k => p (UInt8.ofNat k)) = true) (c : UInt8) : p c = true := by
  have := List.all_eq_true.1 h c.toNat (by simp; exact c.toNat_lt)
  simpa using this
theorem K99 {I : Nat → Option (List AV → AH → Rs)} (h99 : I 99 = none) (m : Nat) (c : UInt8) (h : AH) : call F I T (m + 1) 99 [.int .u8 (c.toNat : Nat)] h = some (.int .u8 ((foldN c).toNat : Nat), h) := by
  rw [call_F (by decide) h99 F99 rfl R99]; simp only [Try.f99, Option.getD]
  simp +contextual (maxSteps := 3000000) only [↓code_skip, ↓code_seq, ↓code_region, ↓code_cond, ↓code_block, ↓code_ret, aCond_bool, ↓ops_nil, ↓ops_cons, run_none, run_someT, ↓run0_v, ↓seqK_normal, ↓seqK_ret, ↓blkK_normal, ↓blkK_ret, ↓retK_ret, put_same, put_ne, env0_at, ev_tmp, ev_const, oc_int, oc_bool, o_move, o_assign, o_pick, o_bin, g_none, g_some, pick_bool, bin_add, bin_sub, bin_leq, bin_geq, resultsOf, oneOrAll, Option.bind_some, Option.map_some, Option.getD_some, decide_eq_true_eq, ↓reduceIte, Nat.reduceEqDiff, not_false_eq_true, reduceCtorEq, List.getElem?_cons_zero, List.getElem?_cons_succ, List.getElem?_toArray, Bool.false_eq_true, ge_iff_le, ne_eq]
  have := byte_all (p := fun c => decide ((if 97 ≤ ((c.toNat : Nat) : Int) then if ((c.toNat : Nat) : Int) ≤ 122 then IntKind.u8.wrap (IntKind.u8.wrap ((c.toNat : Nat) - 97) + 65) else if 160 ≤ ((c.toNat : Nat) : Int) then if ((c.toNat : Nat) : Int) ≤ 191 then IntKind.u8.wrap ((c.toNat : Nat) + 32) else (c.toNat : Nat) else (c.toNat : Nat)
    else if 160 ≤ ((c.toNat : Nat) : Int) then if ((c.toNat : Nat) : Int) ≤ 191 then IntKind.u8.wrap ((c.toNat : Nat) + 32) else (c.toNat : Nat) else (c.toNat : Nat)) = ((foldN c).toNat : Nat))) (by decide +kernel) c
  rw [decide_eq_true_eq] at this
  rw [← this]
  (repeat' split) <;> rfl
theorem K100 {I : Nat → Option (List AV → AH → Rs)} (h100 : I 100 = none) (m : Nat) (c : UInt8) (h : AH) : call F I T (m + 1) 100 [.int .u8 (c.toNat : Nat)] h = some (.int .u8 ((foldN c).toNat : Nat), h) := by
  rw [call_F (by decide) h100 F100 rfl R100]; simp only [Try.f100, Option.getD]
  simp +contextual (maxSteps := 3000000) only [↓code_skip, ↓code_seq, ↓code_region, ↓code_cond, ↓code_block, ↓code_ret, aCond_bool, ↓ops_nil, ↓ops_cons, run_none, run_someT, ↓run0_v, ↓seqK_normal, ↓seqK_ret, ↓blkK_normal, ↓blkK_ret, ↓retK_ret, put_same, put_ne, env0_at, ev_tmp, ev_const, oc_int, oc_bool, o_move, o_assign, o_pick, o_bin, g_none, g_some, pick_bool, bin_add, bin_sub, bin_leq, bin_geq, resultsOf, oneOrAll, Option.bind_some, Option.map_some, Option.getD_some, decide_eq_true_eq, ↓reduceIte, Nat.reduceEqDiff, not_false_eq_true, reduceCtorEq, List.getElem?_cons_zero, List.getElem?_cons_succ, List.getElem?_toArray, Bool.false_eq_true, ge_iff_le, ne_eq]
  have := byte_all (p := fun c => decide ((if 97 ≤ ((c.toNat : Nat) : Int) then if ((c.toNat : Nat) : Int) ≤ 122 then IntKind.u8.wrap ((c.toNat : Nat) - 32) else if 160 ≤ ((c.toNat : Nat) : Int) then if ((c.toNat : Nat) : Int) ≤ 191 then IntKind.u8.wrap ((c.toNat : Nat) + 32) else (c.toNat : Nat) else (c.toNat : Nat)
    else if 160 ≤ ((c.toNat : Nat) : Int) then if ((c.toNat : Nat) : Int) ≤ 191 then IntKind.u8.wrap ((c.toNat : Nat) + 32) else (c.toNat : Nat) else (c.toNat : Nat)) = ((foldN c).toNat : Nat))) (by decide +kernel) c
  rw [decide_eq_true_eq] at this
  rw [← this]
  (repeat' split) <;> rfl
/-- Patterns. -/
structure Ent where
  o : List UInt8
  t : List UInt8
  z : List UInt8
  deriving DecidableEq
def Ent.cells (e : Ent) : List AV := [.str e.o, .str e.t, .str e.z]
/-- Where the first is. -/
theorem run95 {I : Nat → Option (List AV → AH → Rs)} (h95 : I 95 = none) (l : List Int) (p : Int → Bool) (cf : AV) (m : Nat) (h : AH) (hl : l.length < 140737488355328)
    (hp : ∀ x k, callV (call F I T (k + 2)) cf [.int .i64 x] h = some (.bool (p x), h)) :
    call F I T (l.length + m + 3) 95 [.lst false 1 l.length (l.map (.int .i64)), cf] h = some (.int .i64 (idxAt p 0 l), h) := by
  rw [call_F (by decide) h95 F95 rfl R95]; simp only [Try.f95, Option.getD]
  simp +contextual (maxSteps := 3000000) only [↓code_seq, ↓code_region, ↓code_block, ↓code_loop, ↓ops_nil, ↓ops_cons, run_none, ↓run0_v, ↓seqK_normal, put_same, put_ne, env0_at, ev_tmp, ev_const, oc_int, o_move, o_assign, o_len, g_none, Option.getD_some, not_false_eq_true, reduceCtorEq, List.getElem?_cons_zero, ne_eq, len_lst T22 d22]
  refine iterL_wp (Q := fun r => r = some (.int .i64 (idxAt p 0 l), h)) (N := l.length) (Inv := fun k e h' => ∃ i, k + i = l.length ∧ idxAt p 0 l = idxAt p i (l.drop i) ∧ h' = h ∧ e 0 = .lst false 1 l.length (l.map (.int .i64)) ∧ e 1 = cf ∧ e 7 = .int .i64 l.length ∧ e 8 = .int .i64 (i : Nat)) ?_ ?_ (by omega)
  · rintro k e h' K' ⟨i, hk, hr, rfl, e0, e1, e7, e8⟩ hnext hexit
    by_cases hi : i < l.length
    · have c1 : (i : Int) < (l.length : Int) := by omega
      have c3 := drop_map_0 (f := AV.int .i64) (List.getElem?_eq_getElem hi)
      rw [drop_cons hi] at hr
      simp only [idxAt] at hr
      simp +contextual (maxSteps := 3000000) only [↓code_skip, ↓code_seq, ↓code_region, ↓code_cond, ↓code_block, ↓code_ret, aCond_bool, ↓ops_nil, ↓ops_cons, run_none, ↓run0_v, ↓run0_r, ↓seqK_normal, ↓seqK_ret, ↓blkK_normal, ↓blkK_ret, put_same, put_ne, ev_tmp, ev_const, oc_int, o_move, o_assign, o_bin, o_call, o_load, o_indexAddr, g_none, bin_add, bin_lss, decide_eq_true_eq, ↓reduceIte, Nat.reduceEqDiff, not_false_eq_true, reduceCtorEq, List.map_cons, List.map_nil, and_true, ne_eq, ia_lst T22 d22 T3 s3, load_fp1 T3 a3, e0, e1, e7, e8, c1, c3, hp, cast_nonneg, toNat_cast]
      split
      · rename_i hpx
        refine hexit _ _ _ (by simp) ?_
        rw [if_pos hpx] at hr
        rw [hr]
        simp +contextual (maxSteps := 3000000) only [↓seqK_ret, ↓blkK_ret, ↓retK_ret, put_same, resultsOf, oneOrAll, Option.map_some]
      · rename_i hpx
        refine hnext (k - 1) _ _ (by omega) ⟨i + 1, by omega, ?_, ?_, ?_, ?_, ?_, ?_⟩
        · rw [hr, if_neg hpx]
        · rfl
        · simp only [put_ne, not_false_eq_true, reduceCtorEq, ne_eq, e0]
        · simp only [put_ne, Nat.reduceEqDiff, not_false_eq_true, ne_eq, e1]
        · simp only [put_ne, Nat.reduceEqDiff, not_false_eq_true, ne_eq, e7]
        · simp only [put_same]; rw [wrap_i64 (by omega) (by omega)]; rfl
    · have c1 : ¬ (i : Int) < (l.length : Int) := by omega
      rw [drop_end hi] at hr
      simp only [idxAt] at hr
      simp +contextual (maxSteps := 3000000) only [↓code_seq, ↓code_region, ↓code_cond, ↓code_exit, aCond_bool, ↓ops_nil, ↓ops_cons, run_none, ↓run0_v, ↓seqK_normal, ↓seqK_exit, put_same, ev_tmp, o_bin, g_none, bin_lss, decide_eq_true_eq, ↓reduceIte, e7, e8, c1]
      refine hexit _ _ _ (by simp) ?_
      rw [hr]
      simp +contextual (maxSteps := 3000000) only [↓code_seq, ↓code_region, ↓code_ret, ↓ops_nil, ↓ops_cons, run_none, ↓run0_v, ↓seqK_normal, ↓blkK_exit, ↓retK_ret, put_same, ev_const, oc_int, o_assign, g_none, resultsOf, oneOrAll, Option.map_some, ↓reduceIte]
  · refine ⟨0, by omega, ?_, ?_, ?_, ?_, ?_, ?_⟩
    · rfl
    · rfl
    · simp only [put_ne, env0_at, Option.getD_some, not_false_eq_true, reduceCtorEq, List.getElem?_cons_zero, ne_eq]
    · simp only [put_ne, env0_at, Option.getD_some, Nat.reduceEqDiff, not_false_eq_true, List.getElem?_cons_zero, List.getElem?_cons_succ, ne_eq]
    · simp only [put_same, put_ne, Nat.reduceEqDiff, not_false_eq_true, ne_eq]
    · simp only [put_same]; rfl
theorem run96 {I : Nat → Option (List AV → AH → Rs)} (h96 : I 96 = none) (l : List (List UInt8)) (p : List UInt8 → Bool) (cf : AV) (m : Nat) (h : AH) (hl : l.length < 140737488355328)
    (hp : ∀ x k, x ∈ l → callV (call F I T (k + 2)) cf [.str x] h = some (.bool (p x), h)) :
    call F I T (l.length + m + 3) 96 [.lst false 1 l.length (l.map .str), cf] h = some (.int .i64 (idxAt p 0 l), h) := by
  rw [call_F (by decide) h96 F96 rfl R96]; simp only [Try.f96, Option.getD]
  simp +contextual (maxSteps := 3000000) only [↓code_seq, ↓code_region, ↓code_block, ↓code_loop, ↓ops_nil, ↓ops_cons, run_none, ↓run0_v, ↓seqK_normal, put_same, put_ne, env0_at, ev_tmp, ev_const, oc_int, o_move, o_assign, o_len, g_none, Option.getD_some, not_false_eq_true, reduceCtorEq, List.getElem?_cons_zero, ne_eq, len_lst T23 d23]
  refine iterL_wp (Q := fun r => r = some (.int .i64 (idxAt p 0 l), h)) (N := l.length) (Inv := fun k e h' => ∃ i, k + i = l.length ∧ idxAt p 0 l = idxAt p i (l.drop i) ∧ h' = h ∧ e 0 = .lst false 1 l.length (l.map .str) ∧ e 1 = cf ∧ e 7 = .int .i64 l.length ∧ e 8 = .int .i64 (i : Nat)) ?_ ?_ (by omega)
  · rintro k e h' K' ⟨i, hk, hr, rfl, e0, e1, e7, e8⟩ hnext hexit
    by_cases hi : i < l.length
    · have c1 : (i : Int) < (l.length : Int) := by omega
      have hp' := fun k => hp l[i] k (List.getElem_mem hi)
      have c3 := drop_map_0 (f := AV.str) (List.getElem?_eq_getElem hi)
      rw [drop_cons hi] at hr
      simp only [idxAt] at hr
      simp +contextual (maxSteps := 3000000) only [↓code_skip, ↓code_seq, ↓code_region, ↓code_cond, ↓code_block, ↓code_ret, aCond_bool, ↓ops_nil, ↓ops_cons, run_none, ↓run0_v, ↓run0_r, ↓seqK_normal, ↓seqK_ret, ↓blkK_normal, ↓blkK_ret, put_same, put_ne, ev_tmp, ev_const, oc_int, o_move, o_assign, o_bin, o_call, o_load, o_indexAddr, g_none, bin_add, bin_lss, decide_eq_true_eq, ↓reduceIte, Nat.reduceEqDiff, not_false_eq_true, reduceCtorEq, List.map_cons, List.map_nil, and_true, ne_eq, ia_lst T23 d23 T9 s9, load_fp1 T9 a9, e0, e1, e7, e8, c1, c3, hp', cast_nonneg, toNat_cast]
      split
      · rename_i hpx
        refine hexit _ _ _ (by simp) ?_
        rw [if_pos hpx] at hr
        rw [hr]
        simp +contextual (maxSteps := 3000000) only [↓seqK_ret, ↓blkK_ret, ↓retK_ret, put_same, resultsOf, oneOrAll, Option.map_some]
      · rename_i hpx
        refine hnext (k - 1) _ _ (by omega) ⟨i + 1, by omega, ?_, ?_, ?_, ?_, ?_, ?_⟩
        · rw [hr, if_neg hpx]
        · rfl
        · simp only [put_ne, not_false_eq_true, reduceCtorEq, ne_eq, e0]
        · simp only [put_ne, Nat.reduceEqDiff, not_false_eq_true, ne_eq, e1]
        · simp only [put_ne, Nat.reduceEqDiff, not_false_eq_true, ne_eq, e7]
        · simp only [put_same]; rw [wrap_i64 (by omega) (by omega)]; rfl
    · have c1 : ¬ (i : Int) < (l.length : Int) := by omega
      rw [drop_end hi] at hr
      simp only [idxAt] at hr
      simp +contextual (maxSteps := 3000000) only [↓code_seq, ↓code_region, ↓code_cond, ↓code_exit, aCond_bool, ↓ops_nil, ↓ops_cons, run_none, ↓run0_v, ↓seqK_normal, ↓seqK_exit, put_same, ev_tmp, o_bin, g_none, bin_lss, decide_eq_true_eq, ↓reduceIte, e7, e8, c1]
      refine hexit _ _ _ (by simp) ?_
      rw [hr]
      simp +contextual (maxSteps := 3000000) only [↓code_seq, ↓code_region, ↓code_ret, ↓ops_nil, ↓ops_cons, run_none, ↓run0_v, ↓seqK_normal, ↓blkK_exit, ↓retK_ret, put_same, ev_const, oc_int, o_assign, g_none, resultsOf, oneOrAll, Option.map_some, ↓reduceIte]
  · refine ⟨0, by omega, ?_, ?_, ?_, ?_, ?_, ?_⟩
    · rfl
    · rfl
    · simp only [put_ne, env0_at, Option.getD_some, not_false_eq_true, reduceCtorEq, List.getElem?_cons_zero, ne_eq]
    · simp only [put_ne, env0_at, Option.getD_some, Nat.reduceEqDiff, not_false_eq_true, List.getElem?_cons_zero, List.getElem?_cons_succ, ne_eq]
    · simp only [put_same, put_ne, Nat.reduceEqDiff, not_false_eq_true, ne_eq]
    · simp only [put_same]; rfl
/-- Text by text, folded. -/
def ord : List UInt8 → List UInt8 → Int
  | [], [] => 0
  | [], _ :: _ => -1
  | _ :: _, [] => 1
  | x :: xs, y :: ys => if (foldN x).toNat < (foldN y).toNat then -1 else if (foldN y).toNat < (foldN x).toNat then 1 else ord xs ys
theorem ix_at {s : List UInt8} {i : Nat} (h : i < s.length) : s[i]? = some s[i] := List.getElem?_eq_getElem h
theorem run113 {I : Nat → Option (List AV → AH → Rs)} (h100 : I 100 = none) (h113 : I 113 = none) (a b : List UInt8) (m : Nat) (h : AH) (hl : a.length < 140737488355328) (hl2 : b.length < 140737488355328) :
    call F I T (a.length + m + 3) 113 [.str a, .str b] h = some (.int .i64 (ord a b), h) := by
  rw [call_F (by decide) h113 F113 rfl R113]; simp only [Try.f113, Option.getD]
  simp +contextual (maxSteps := 3000000) only [↓code_seq, ↓code_region, ↓code_block, ↓code_loop, ↓ops_nil, ↓ops_cons, run_none, ↓run0_v, ↓seqK_normal, ev_const, oc_int, o_assign, g_none]
  refine iterL_wp (Q := fun r => r = some (.int .i64 (ord a b), h)) (N := a.length) (Inv := fun k e h' => ∃ i, k + i = a.length ∧ i ≤ b.length ∧ ord a b = ord (a.drop i) (b.drop i) ∧ h' = h ∧ e 0 = .str a ∧ e 1 = .str b ∧ e 5 = .int .i64 (i : Nat)) ?_ ?_ (by omega)
  · rintro k e h' K' ⟨i, hk, hib, hr, rfl, e0, e1, e5⟩ hnext hexit
    by_cases hi : i < a.length
    · have c1 : (i : Int) < (a.length : Int) := by omega
      by_cases hj : i < b.length
      · have c2 : (i : Int) < (b.length : Int) := by omega
        rw [drop_cons hi, drop_cons hj] at hr
        simp only [ord] at hr
        simp +contextual (maxSteps := 3000000) only [↓code_skip, ↓code_seq, ↓code_region, ↓code_cond, ↓code_block, ↓code_ret, aCond_bool, ↓ops_nil, ↓ops_cons, run_none, run_someT, ↓run0_v, ↓run0_r, ↓seqK_normal, ↓seqK_ret, ↓blkK_normal, ↓blkK_ret, put_same, put_ne, ev_tmp, ev_const, ev_func, oc_int, oc_bool, o_move, o_assign, o_pick, o_bin, o_call, o_len, o_index, g_none, g_some, pick_bool, bin_add, bin_lss, bin_gtr, Option.bind_some, Option.map_some, decide_eq_true_eq, ↓reduceIte, Nat.reduceEqDiff, not_false_eq_true, reduceCtorEq, List.getElem?_cons_zero, List.getElem?_cons_succ, List.getElem?_toArray, List.map_cons, List.map_nil, List.append_nil, List.nil_append, gt_iff_lt, ne_eq, len_str T9 d9, ix_str T9 d9, callV_fn (g := 100) (by decide), K100 h100, e0, e1, e5, c1, c2, ix_at hi, ix_at hj, cast_nonneg, toNat_cast, Int.ofNat_lt]
        split
        · rename_i hpx
          refine hexit _ _ _ (by simp) ?_
          rw [if_pos hpx] at hr
          rw [hr]
          simp +contextual (maxSteps := 3000000) only [↓seqK_ret, ↓blkK_ret, ↓retK_ret, put_same, resultsOf, oneOrAll, Option.map_some]
        · rename_i hpx
          rw [if_neg hpx] at hr
          split
          · rename_i hpy
            refine hexit _ _ _ (by simp) ?_
            rw [if_pos hpy] at hr
            rw [hr]
            simp +contextual (maxSteps := 3000000) only [↓seqK_ret, ↓blkK_ret, ↓retK_ret, put_same, resultsOf, oneOrAll, Option.map_some]
          · rename_i hpy
            rw [if_neg hpy] at hr
            refine hnext (k - 1) _ _ (by omega) ⟨i + 1, by omega, ?_, ?_, ?_, ?_, ?_, ?_⟩
            · omega
            · exact hr
            · rfl
            · simp only [put_ne, not_false_eq_true, reduceCtorEq, ne_eq, e0]
            · simp only [put_ne, Nat.reduceEqDiff, not_false_eq_true, ne_eq, e1]
            · simp only [put_same]; rw [wrap_i64 (by omega) (by omega)]; rfl
      · have c2 : ¬ (i : Int) < (b.length : Int) := by omega
        have c3 : ¬ (a.length : Int) < (b.length : Int) := by omega
        have c4 : (b.length : Int) < (a.length : Int) := by omega
        rw [drop_cons hi, drop_end hj] at hr
        simp only [ord] at hr
        simp +contextual (maxSteps := 3000000) only [↓code_seq, ↓code_region, ↓code_cond, ↓code_exit, aCond_bool, ↓ops_nil, ↓ops_cons, run_none, run_someT, ↓run0_v, ↓seqK_normal, ↓seqK_exit, put_same, put_ne, ev_tmp, ev_const, oc_bool, o_move, o_pick, o_bin, o_len, g_none, g_some, pick_bool, bin_lss, Option.bind_some, decide_eq_true_eq, ↓reduceIte, Nat.reduceEqDiff, not_false_eq_true, reduceCtorEq, List.getElem?_cons_zero, List.getElem?_cons_succ, List.getElem?_toArray, ne_eq, len_str T9 d9, e0, e1, e5, c1, c2]
        refine hexit _ _ _ (by simp) ?_
        rw [hr]
        simp +contextual (maxSteps := 3000000) only [↓code_seq, ↓code_region, ↓code_cond, ↓code_block, ↓code_ret, aCond_bool, ↓ops_nil, ↓ops_cons, run_none, ↓run0_v, ↓seqK_normal, ↓seqK_ret, ↓blkK_ret, ↓blkK_exit, ↓retK_ret, put_same, put_ne, ev_tmp, ev_const, oc_int, o_move, o_assign, o_bin, o_len, g_none, bin_lss, bin_gtr, resultsOf, oneOrAll, Option.map_some, decide_eq_true_eq, ↓reduceIte, Nat.reduceEqDiff, not_false_eq_true, reduceCtorEq, gt_iff_lt, ne_eq, len_str T9 d9, e0, e1, c3, c4]
    · have c1 : ¬ (i : Int) < (a.length : Int) := by omega
      simp +contextual (maxSteps := 3000000) only [↓code_seq, ↓code_region, ↓code_cond, ↓code_exit, aCond_bool, ↓ops_nil, ↓ops_cons, run_none, run_someT, ↓run0_v, ↓seqK_normal, ↓seqK_exit, put_same, put_ne, ev_tmp, ev_const, oc_bool, o_move, o_pick, o_bin, o_len, g_none, g_some, pick_bool, bin_lss, Option.bind_some, decide_eq_true_eq, ↓reduceIte, Nat.reduceEqDiff, not_false_eq_true, reduceCtorEq, List.getElem?_cons_zero, List.getElem?_cons_succ, List.getElem?_toArray, Bool.false_eq_true, ne_eq, len_str T9 d9, e0, e1, e5, c1]
      refine hexit _ _ _ (by simp) ?_
      rw [drop_end hi] at hr
      by_cases hj : i < b.length
      · have c3 : (a.length : Int) < (b.length : Int) := by omega
        rw [drop_cons hj] at hr
        simp only [ord] at hr
        rw [hr]
        simp +contextual (maxSteps := 3000000) only [↓code_seq, ↓code_region, ↓code_cond, ↓code_block, ↓code_ret, aCond_bool, ↓ops_nil, ↓ops_cons, run_none, ↓run0_v, ↓seqK_normal, ↓seqK_ret, ↓blkK_ret, ↓blkK_exit, ↓retK_ret, put_same, put_ne, ev_tmp, ev_const, oc_int, o_move, o_assign, o_bin, o_len, g_none, bin_lss, resultsOf, oneOrAll, Option.map_some, decide_eq_true_eq, ↓reduceIte, Nat.reduceEqDiff, not_false_eq_true, reduceCtorEq, ne_eq, len_str T9 d9, e0, e1, c3]
      · have c3 : ¬ (a.length : Int) < (b.length : Int) := by omega
        have c4 : ¬ (b.length : Int) < (a.length : Int) := by omega
        rw [drop_end hj] at hr
        simp only [ord] at hr
        rw [hr]
        simp +contextual (maxSteps := 3000000) only [↓code_skip, ↓code_seq, ↓code_region, ↓code_cond, ↓code_block, ↓code_ret, aCond_bool, ↓ops_nil, ↓ops_cons, run_none, ↓run0_v, ↓seqK_normal, ↓blkK_normal, ↓blkK_exit, ↓retK_ret, put_same, put_ne, ev_tmp, ev_const, oc_int, o_move, o_assign, o_bin, o_len, g_none, bin_lss, bin_gtr, resultsOf, oneOrAll, Option.map_some, decide_eq_true_eq, ↓reduceIte, Nat.reduceEqDiff, not_false_eq_true, reduceCtorEq, gt_iff_lt, ne_eq, len_str T9 d9, e0, e1, c3, c4]
  · refine ⟨0, by omega, ?_, ?_, ?_, ?_, ?_, ?_⟩
    · omega
    · rfl
    · rfl
    · simp only [put_ne, env0_at, Option.getD_some, not_false_eq_true, reduceCtorEq, List.getElem?_cons_zero, ne_eq]
    · simp only [put_ne, env0_at, Option.getD_some, Nat.reduceEqDiff, not_false_eq_true, List.getElem?_cons_zero, List.getElem?_cons_succ, ne_eq]
    · simp only [put_same]; rfl
end Go.AM.X
namespace Go.AM.X
open Go Go.AM Go.Proofs Go.AM.Sx
set_option maxHeartbeats 400000
set_option maxRecDepth 100000
set_option linter.unusedVariables false
theorem F63 : F 63 = some { body := (Try.f63.body.getD .skip), results := Try.f63.results.toList, rf := false } := by kernel_rfl
theorem R63 : regsOk T (Try.f63.body.getD .skip) = true := by kernel_rfl
theorem F65 : F 65 = some { body := (Try.f65.body.getD .skip), results := Try.f65.results.toList, rf := false } := by kernel_rfl
theorem R65 : regsOk T (Try.f65.body.getD .skip) = true := by kernel_rfl
theorem F84 : F 84 = some { body := (Try.f84.body.getD .skip), results := Try.f84.results.toList, rf := false } := by kernel_rfl
theorem R84 : regsOk T (Try.f84.body.getD .skip) = true := by kernel_rfl
theorem F86 : F 86 = some { body := (Try.f86.body.getD .skip), results := Try.f86.results.toList, rf := false } := by kernel_rfl
theorem R86 : regsOk T (Try.f86.body.getD .skip) = true := by kernel_rfl
def fold (s : List UInt8) : List UInt8 := s.map foldN
def equal (a b : List UInt8) : Bool := decide (fold a = fold b)
theorem ord_zero : ∀ a b : List UInt8, (ord a b = 0) = (fold a = fold b)
  | [], [] => by simp [ord, fold]
  | [], _ :: _ => by simp [ord, fold]
  | _ :: _, [] => by simp [ord, fold]
  | x :: xs, y :: ys => by
    have ih := ord_zero xs ys
    simp only [fold] at ih ⊢
    simp only [ord, List.map_cons, List.cons.injEq]
    by_cases h1 : (foldN x).toNat < (foldN y).toNat
    · rw [if_pos h1]
      have : foldN x ≠ foldN y := fun e => by rw [e] at h1; omega
      simp [this]
    · rw [if_neg h1]
      by_cases h2 : (foldN y).toNat < (foldN x).toNat
      · rw [if_pos h2]
        have : foldN x ≠ foldN y := fun e => by rw [e] at h2; omega
        simp [this]
      · rw [if_neg h2]
        have : foldN x = foldN y := UInt8.toNat_inj.1 (by omega)
        simp [this, ih]
noncomputable def g86 := G2 vStr vStr fun a b => if a.length < 140737488355328 ∧ b.length < 140737488355328 then some (.bool (equal a b)) else none
theorem run86 {I : Nat → Option (List AV → AH → Rs)} (h100 : I 100 = none) (h113 : I 113 = none) (h86 : I 86 = none) (a b : List UInt8) (m : Nat) (hl : a.length < 140737488355328) (hl2 : b.length < 140737488355328) :
    ∃ h', call F I T (a.length + m + 4) 86 [.str a, .str b] e0 = some (.bool (equal a b), h') := by
  rw [call_F (by decide) h86 F86 rfl R86]; simp only [Try.f86, Option.getD]
  have c := run113 h100 h113 a b m e0 hl hl2
  simp +contextual (maxSteps := 3000000) only [↓code_seq, ↓code_region, ↓code_ret, ↓ops_nil, ↓ops_cons, run_none, ↓run0_v, ↓run0_r, ↓seqK_normal, ↓retK_ret, put_same, put_ne, env0_at, ev_tmp, ev_const, ev_func, oc_int, oc_bool, o_move, o_assign, o_bin, o_call, g_none, bin_eql, resultsOf, oneOrAll, Option.map_some, Option.getD_some, Nat.reduceEqDiff, not_false_eq_true, reduceCtorEq, List.getElem?_cons_zero, List.getElem?_cons_succ, List.map_cons, List.map_nil, List.append_nil, List.nil_append, ne_eq, callV_fn (g := 113) (by decide), c, ord_zero, equal]
  exact ⟨_, rfl⟩
theorem K86 {I : Nat → Option (List AV → AH → Rs)} (h86 : I 86 = some (pureG g86)) (m : Nat) (a b : List UInt8) (h : AH) (hl : a.length < 140737488355328) (hl2 : b.length < 140737488355328) : call F I T (m + 1) 86 [.str a, .str b] h = some (.bool (equal a b), h) := by
  rw [call_I (by decide) h86]; exact pureG_flat rfl (by simp [g86, G2, vStr, dStr, hl, hl2])
theorem set_fold (s : List UInt8) (i : Nat) (hi : i < s.length) :
    (ofBytes ((s.take i).map foldN ++ s.drop i)).set i (.int .u8 ((foldN s[i]).toNat : Nat)) = ofBytes ((s.take (i + 1)).map foldN ++ s.drop (i + 1)) := by
  have h1 : s.drop i = s[i] :: s.drop (i + 1) := List.drop_eq_getElem_cons hi
  have h2 : s.take (i + 1) = s.take i ++ [s[i]] := by rw [List.take_add_one, List.getElem?_eq_getElem hi]; rfl
  rw [h1, h2]
  have h3 : ((s.take i).map foldN).length = i := by simp; omega
  simp only [ofBytes, List.map_append, List.map_cons, List.map_nil, List.append_assoc, List.singleton_append]
  rw [List.set_append_right _ _ (by simp; omega)]
  simp [Nat.min_eq_left (Nat.le_of_lt hi)]
noncomputable def g63 := G1 vStr fun s => if s.length < 140737488355328 then some (.str (fold s)) else none
theorem run63 {I : Nat → Option (List AV → AH → Rs)} (h99 : I 99 = none) (h63 : I 63 = none) (s : List UInt8) (m : Nat) (hl : s.length < 140737488355328) : ∃ h', call F I T (s.length + m + 3) 63 [.str s] e0 = some (.str (fold s), h') := by
  rw [call_F (by decide) h63 F63 rfl R63]; simp only [Try.f63, Option.getD]
  have c0 : s.length < maxBytes := hl
  simp +contextual (maxSteps := 3000000) only [↓code_seq, ↓code_region, ↓code_block, ↓code_loop, ↓ops_nil, ↓ops_cons, run_none, ↓run0_v, ↓run0_r, ↓seqK_normal, put_same, put_ne, env0_at, ev_tmp, ev_const, oc_int, oc_str, o_move, o_assign, o_len, o_convert, g_none, next_e0, Option.getD_some, ↓reduceIte, not_false_eq_true, reduceCtorEq, List.getElem?_cons_zero, ne_eq, conv_bytes T9 T25 d25 d9 T5 d5 s5, len_sl T25 d25, c0]
  refine iterL_wp (Q := fun r => ∃ h', r = some (.str (fold s), h')) (N := s.length) (Inv := fun k e h' => ∃ i c, k + i = s.length ∧ h'.get 0 = some (.cells (ofBytes c) .byt) ∧ c = (s.take i).map foldN ++ s.drop i ∧ e 3 = .sl 0 0 s.length s.length 1 false ∧ e 8 = .sl 0 0 s.length s.length 1 false ∧ e 9 = .int .i64 s.length ∧ e 10 = .int .i64 (i : Nat)) ?_ ?_ (by omega)
  · rintro k e h' K' ⟨i, c, hk, hb, hc, e3, e8, e9, e10⟩ hnext hexit
    have hcl0 : c.length = s.length := by rw [hc]; simp; omega
    have hcl : (ofBytes c).length = s.length := by simp [ofBytes, hcl0]
    by_cases hi : i < s.length
    · have c1 : (i : Int) < (s.length : Int) := by omega
      have hci0 : c[i]? = some s[i] := by rw [hc, List.getElem?_append_right (by simp; omega)]; simp [Nat.min_eq_left (Nat.le_of_lt hi)]
      have hci : (ofBytes c)[0 + i * 1]? = some (.int .u8 (s[i].toNat : Nat)) := by
        simp [ofBytes, hci0]
      have hlt : 0 + i * 1 < (ofBytes c).length := by omega
      simp +contextual (maxSteps := 3000000) only [↓code_skip, ↓code_seq, ↓code_region, ↓code_cond, ↓code_block, aCond_bool, ↓ops_nil, ↓ops_cons, run_none, ↓run0_v, ↓run0_h, ↓run0_r, ↓seqK_normal, ↓blkK_normal, put_same, put_ne, put_none, ev_tmp, ev_const, ev_func, oc_int, o_move, o_assign, o_bin, o_call, o_load, o_store, o_indexAddr, g_none, bin_add, bin_lss, decide_eq_true_eq, ↓reduceIte, Nat.reduceEqDiff, not_false_eq_true, List.map_cons, List.map_nil, List.append_nil, List.nil_append, and_true, ne_eq, ia_sl T25 d25 T5 s5, load_p1 T5 a5, loadc_def, st_int T5 s5, stm_byt, run0_h, callV_fn (g := 99) (by decide), K99 h99, e3, e8, e9, e10, c1, hb, hci, hlt, cast_nonneg, toNat_cast]
      refine hnext (k - 1) _ _ (by omega) ⟨i + 1, (s.take (i + 1)).map foldN ++ s.drop (i + 1), by omega, ?_, ?_, ?_, ?_, ?_, ?_⟩
      · rw [AH.get_put, if_pos rfl, hc, Nat.zero_add, Nat.mul_one]; congr 2; exact set_fold s i hi
      · rfl
      · simp only [put_ne, Nat.reduceEqDiff, not_false_eq_true, ne_eq, e3]
      · simp only [put_ne, Nat.reduceEqDiff, not_false_eq_true, ne_eq, e8]
      · simp only [put_ne, Nat.reduceEqDiff, not_false_eq_true, ne_eq, e9]
      · simp only [put_same]; rw [wrap_i64 (by omega) (by omega)]; rfl
    · have c1 : ¬ (i : Int) < (s.length : Int) := by omega
      have hie : i = s.length := by omega
      have hcs : c = fold s := by rw [hc, hie]; simp [fold]
      simp +contextual (maxSteps := 3000000) only [↓code_seq, ↓code_region, ↓code_cond, ↓code_exit, aCond_bool, ↓ops_nil, ↓ops_cons, run_none, ↓run0_v, ↓seqK_normal, ↓seqK_exit, put_same, ev_tmp, o_bin, g_none, bin_lss, decide_eq_true_eq, ↓reduceIte, e9, e10, c1]
      refine hexit _ _ _ (by simp) ⟨h', ?_⟩
      have h5 : h'.loadn 0 0 s.length = some (ofBytes c) := by
        simp only [AH.loadn, hb]
        rw [if_pos (by omega), List.drop_zero, List.take_of_length_le (by omega)]
      simp +contextual (maxSteps := 3000000) only [↓code_seq, ↓code_region, ↓code_ret, ↓ops_nil, ↓ops_cons, run_none, ↓run0_v, ↓run0_r, ↓seqK_normal, ↓blkK_exit, ↓retK_ret, put_same, put_ne, ev_tmp, o_move, o_assign, o_convert, g_none, resultsOf, oneOrAll, Option.map_some, ↓reduceIte, Nat.reduceEqDiff, not_false_eq_true, ne_eq, conv_backS T25 T9 d9 d25 T5 d5 s5, e3, h5, bytesOf_ofBytes]
      rw [hcs]
  · refine ⟨0, s, by omega, ?_, ?_, ?_, ?_, ?_, ?_⟩
    · rfl
    · simp
    · simp only [put_same, put_ne, Nat.reduceEqDiff, not_false_eq_true, ne_eq]
    · simp only [put_same, put_ne, Nat.reduceEqDiff, not_false_eq_true, ne_eq]
    · simp only [put_same, put_ne, Nat.reduceEqDiff, not_false_eq_true, ne_eq]
    · simp only [put_same]; rfl
theorem K63 {I : Nat → Option (List AV → AH → Rs)} (h63 : I 63 = some (pureG g63)) (m : Nat) (s : List UInt8) (h : AH) (hl : s.length < 140737488355328) : call F I T (m + 1) 63 [.str s] h = some (.str (fold s), h) := by
  rw [call_I (by decide) h63]; exact pureG_flat rfl (by simp [g63, G1, vStr, dStr, hl])
noncomputable def g84 := G2 vStr vStr fun a b => if a.length < 140737488355328 ∧ b.length < 140737488355328 then some (.bool (equal a b)) else none
theorem run84 {I : Nat → Option (List AV → AH → Rs)} (h63 : I 63 = some (pureG g63)) (h84 : I 84 = none) (a b : List UInt8) (m : Nat) (hl : a.length < 140737488355328) (hl2 : b.length < 140737488355328) :
    ∃ h', call F I T (m + 4) 84 [.str a, .str b] e0 = some (.bool (equal a b), h') := by
  rw [call_F (by decide) h84 F84 rfl R84]; simp only [Try.f84, Option.getD]
  simp +contextual (maxSteps := 3000000) only [↓code_seq, ↓code_region, ↓code_ret, ↓ops_nil, ↓ops_cons, run_none, ↓run0_v, ↓run0_r, ↓seqK_normal, ↓retK_ret, put_same, put_ne, env0_at, ev_tmp, ev_const, ev_func, oc_bool, o_move, o_assign, o_bin, o_call, g_none, str_eql, resultsOf, oneOrAll, Option.map_some, Option.getD_some, Nat.reduceEqDiff, not_false_eq_true, reduceCtorEq, List.getElem?_cons_zero, List.getElem?_cons_succ, List.map_cons, List.map_nil, List.append_nil, List.nil_append, ne_eq, callV_fn (g := 63) (by decide), K63 h63, hl, hl2, equal]
  exact ⟨_, rfl⟩
theorem K84 {I : Nat → Option (List AV → AH → Rs)} (h84 : I 84 = some (pureG g84)) (m : Nat) (a b : List UInt8) (h : AH) (hl : a.length < 140737488355328) (hl2 : b.length < 140737488355328) : call F I T (m + 1) 84 [.str a, .str b] h = some (.bool (equal a b), h) := by
  rw [call_I (by decide) h84]; exact pureG_flat rfl (by simp [g84, G2, vStr, dStr, hl, hl2])
end Go.AM.X
namespace Go.AM.X
open Go Go.AM Go.Proofs Go.AM.Sx
set_option maxHeartbeats 400000
set_option maxRecDepth 100000
set_option linter.unusedVariables false
theorem F66 : F 66 = some { body := (Try.f66.body.getD .skip), results := Try.f66.results.toList, rf := false } := by kernel_rfl
theorem R66 : regsOk T (Try.f66.body.getD .skip) = true := by kernel_rfl
theorem F55 : F 55 = some { body := (Try.f55.body.getD .skip), results := Try.f55.results.toList, rf := false } := by kernel_rfl
theorem R55 : regsOk T (Try.f55.body.getD .skip) = true := by kernel_rfl
theorem F101 : F 101 = some { body := (Try.f101.body.getD .skip), results := Try.f101.results.toList, rf := false } := by kernel_rfl
theorem R101 : regsOk T (Try.f101.body.getD .skip) = true := by kernel_rfl
theorem F67 : F 67 = some { body := (Try.f67.body.getD .skip), results := Try.f67.results.toList, rf := false } := by kernel_rfl
theorem R67 : regsOk T (Try.f67.body.getD .skip) = true := by kernel_rfl
theorem F24 : F 24 = some { body := (Try.f24.body.getD .skip), results := Try.f24.results.toList, rf := false } := by kernel_rfl
theorem R24 : regsOk T (Try.f24.body.getD .skip) = true := by kernel_rfl
theorem F25 : F 25 = some { body := (Try.f25.body.getD .skip), results := Try.f25.results.toList, rf := false } := by kernel_rfl
theorem R25 : regsOk T (Try.f25.body.getD .skip) = true := by kernel_rfl
noncomputable def g65 := G1 vStr fun s => if s.length < 140737488355327 then some (.str (fold s)) else none
theorem run65 {I : Nat → Option (List AV → AH → Rs)} (h100 : I 100 = none) (h65 : I 65 = none) (s : List UInt8) (m : Nat) (hl : s.length < 140737488355327) : ∃ h', call F I T (s.length + m + 3) 65 [.str s] e0 = some (.str (fold s), h') := by
  rw [call_F (by decide) h65 F65 rfl R65]; simp only [Try.f65, Option.getD]
  simp +contextual (maxSteps := 3000000) only [↓code_seq, ↓code_region, ↓code_block, ↓code_loop, ↓ops_nil, ↓ops_cons, run_none, ↓run0_v, ↓seqK_normal, ev_const, oc_int, oc_str, oc_nils, o_assign, g_none]
  refine iterL_wp (Q := fun r => ∃ h', r = some (.str (fold s), h')) (N := s.length) (Inv := fun k e h' => ∃ i v, k + i = s.length ∧ i ≤ s.length ∧ Row 1 h' v i (ofBytes ((s.take i).map foldN)) ∧ e 0 = .str s ∧ e 3 = v ∧ e 4 = .int .i64 (i : Nat)) ?_ ?_ (by omega)
  · rintro k e h' K' ⟨i, v, hk, hil, ho, e0, e3, e4⟩ hnext hexit
    by_cases hi : i < s.length
    · have c1 : (i : Int) < (s.length : Int) := by omega
      obtain ⟨b, h2, happ, ho2, _, _, _⟩ := (ho.alloc (.cells [.int .u8 ((foldN s[i]).toNat : Nat)] .own)).app T25 d25 T5 (isSrc_sl T25 d25) s5 (by rw [b5]; decide) (m := 1) (new := [.int .u8 ((foldN s[i]).toNat : Nat)])
        (x := .sl h'.next 0 1 1 1 true) (by rw [s5, src_sl]; simp [AH.loadn, AH.get_alloc]) (by omega) rfl rfl (by rw [b5]; unfold maxBytes; omega)
      simp +contextual (maxSteps := 3000000) only [↓code_skip, ↓code_seq, ↓code_region, ↓code_cond, ↓code_block, aCond_bool, ↓ops_nil, ↓ops_cons, run_none, ↓run0_v, ↓run0_r, ↓seqK_normal, ↓blkK_normal, put_same, put_ne, ev_tmp, ev_const, ev_func, oc_int, o_move, o_assign, o_bin, o_call, o_len, o_buildSlice, o_index, o_append, g_none, bin_add, bin_lss, Option.bind_some, Option.map_some, decide_eq_true_eq, ↓reduceIte, Nat.reduceEqDiff, not_false_eq_true, Nat.reduceAdd, Nat.reduceMul, reduceCtorEq, Nat.succ_ne_self, List.map_cons, List.map_nil, List.append_nil, List.nil_append, and_true, Nat.le_refl, ne_eq, len_str T9 d9, ix_str T9 d9, buildSl T25 d25 T5 (n := 1) (by rw [s5]; decide), s5, z5, parts_eq, fillA, AV.cells, AH.splice, List.drop_succ_cons, List.length_cons, List.length_nil, repl, callV_fn (g := 100) (by decide), K100 h100, e0, e3, e4, c1, ix_at hi, cast_nonneg, toNat_cast, List.take, List.drop, List.length_cons, List.length_nil, happ]
      refine hnext (k - 1) _ _ (by omega) ⟨i + 1, .sl b 0 (i + 1) (i + 1) 1 false, by omega, ?_, ?_, ?_, ?_, ?_⟩
      · omega
      · rw [take_snoc hi, List.map_append, List.map_cons, List.map_nil, ofBytes_snoc]; exact ho2
      · simp only [put_ne, not_false_eq_true, reduceCtorEq, ne_eq, e0]
      · simp only [put_same, put_ne, Nat.reduceEqDiff, not_false_eq_true, ne_eq]
      · simp only [put_same]; rw [wrap_i64 (by omega) (by omega)]; rfl
    · have c1 : ¬ (i : Int) < (s.length : Int) := by omega
      have hie : i = s.length := by omega
      have hcs : (s.take i).map foldN = fold s := by rw [hie]; simp [fold]
      rw [hcs] at ho
      have hb := ho.back (by simp [fold, hie]) T25 T9 d9 d25 T5 d5 s5
      simp +contextual (maxSteps := 3000000) only [↓code_seq, ↓code_region, ↓code_cond, ↓code_exit, aCond_bool, ↓ops_nil, ↓ops_cons, run_none, ↓run0_v, ↓seqK_normal, ↓seqK_exit, put_same, put_ne, ev_tmp, o_move, o_bin, o_len, g_none, bin_lss, decide_eq_true_eq, ↓reduceIte, Nat.reduceEqDiff, not_false_eq_true, reduceCtorEq, ne_eq, len_str T9 d9, e0, e4, c1]
      refine hexit _ _ _ (by simp) ⟨h', ?_⟩
      simp +contextual (maxSteps := 3000000) only [↓code_seq, ↓code_region, ↓code_ret, ↓ops_nil, ↓ops_cons, run_none, ↓run0_v, ↓run0_r, ↓seqK_normal, ↓blkK_exit, ↓retK_ret, put_same, put_ne, ev_tmp, o_move, o_assign, o_convert, g_none, resultsOf, oneOrAll, Option.map_some, ↓reduceIte, Nat.reduceEqDiff, not_false_eq_true, ne_eq, e3, hb]
  · refine ⟨0, .nils, by omega, ?_, ?_, ?_, ?_, ?_⟩
    · omega
    · exact Row.nil _ _
    · simp only [put_ne, env0_at, Option.getD_some, not_false_eq_true, reduceCtorEq, List.getElem?_cons_zero, ne_eq]
    · simp only [put_same, put_ne, Nat.reduceEqDiff, not_false_eq_true, ne_eq]
    · simp only [put_same]; rfl
theorem K65 {I : Nat → Option (List AV → AH → Rs)} (h65 : I 65 = some (pureG g65)) (m : Nat) (s : List UInt8) (h : AH) (hl : s.length < 140737488355327) : call F I T (m + 1) 65 [.str s] h = some (.str (fold s), h) := by
  rw [call_I (by decide) h65]; exact pureG_flat rfl (by simp [g65, G1, vStr, dStr, hl])
/-- Lists. -/
theorem K101 {I : Nat → Option (List AV → AH → Rs)} (h84 : I 84 = some (pureG g84)) (h101 : I 101 = none) (m : Nat) (x s : List UInt8) (h : AH) (hl : x.length < 140737488355328) (hl2 : s.length < 140737488355328) : call F I T (m + 2) 101 [.str x, .fp [.str s]] h = some (.bool (equal x s), h) := by
  rw [call_F (by decide) h101 F101 rfl R101]; simp only [Try.f101, Option.getD]
  simp +contextual (maxSteps := 3000000) only [↓code_seq, ↓code_region, ↓code_ret, ↓ops_nil, ↓ops_cons, run_none, ↓run0_v, ↓run0_r, ↓seqK_normal, ↓retK_ret, put_same, put_ne, env0_at, ev_tmp, ev_const, ev_func, oc_bool, o_move, o_assign, o_call, o_load, g_none, resultsOf, oneOrAll, Option.map_some, Option.getD_some, Nat.reduceEqDiff, not_false_eq_true, reduceCtorEq, List.getElem?_cons_zero, List.getElem?_cons_succ, List.map_cons, List.map_nil, List.append_nil, List.nil_append, ne_eq, load_fp1 T9 a9, callV_fn (g := 84) (by decide), K84 h84, hl, hl2]
inductive Clo where
  | noZone | same (s : List UInt8)
def Clo.p : Clo → List UInt8 → Bool
  | .noZone, x => !isZone x
  | .same s, x => equal x s
def Clo.ok : Clo → Prop
  | .noZone => True
  | .same s => s.length < 140737488355328
def dClo : AV → Option Clo
  | .fn 56 [] [] => some .noZone
  | .fn 101 [] [.fp [.str s]] => some (.same s)
  | _ => none
def vClo : View Clo where
  enc c := match c with
    | .noZone => .fn 56 [] []
    | .same s => .fn 101 [] [.fp [.str s]]
  dec := dClo
  law a x h := by
    unfold dClo at h
    split at h
    · cases h; exact Wk.refl _
    · cases h; exact Wk.refl _
    · cases h
  flat c := by cases c <;> rfl
def small (l : List (List UInt8)) : Prop := l.length < 140737488355328 ∧ ∀ x ∈ l, x.length < 140737488355327
noncomputable def g55 := open Classical in G2 (vList vStr) vClo fun l c => if small l ∧ c.ok then some (.bool (l.any c.p)) else none
theorem dStr_enc (x : List UInt8) : vStr.dec (vStr.enc x) = some x := rfl
theorem run55 {I : Nat → Option (List AV → AH → Rs)} (h96 : I 96 = none) (h55 : I 55 = none) {h101 : I 101 = none} {h56 : I 56 = none} {h22 : I 22 = none} {h84 : I 84 = some (pureG g84)} (l : List (List UInt8)) (c : Clo) (m : Nat) (hl : small l) (hc : c.ok) :
    ∃ h', call F I T (l.length + m + 4) 55 [.lst false 1 l.length (l.map .str), vClo.enc c] e0 = some (.bool (l.any c.p), h') := by
  have hp : ∀ x k, x ∈ l → callV (call F I T (k + 2)) (vClo.enc c) [.str x] e0 = some (.bool (c.p x), e0) := by
    intro x k hx
    have hb := hl.2 x hx
    cases c with
    | noZone => show callV _ (.fn 56 [] []) _ _ = _; rw [callV_fn (by decide)]; exact K56 h22 h56 k x e0
    | same s => show callV _ (.fn 101 [] [.fp [.str s]]) _ _ = _; rw [callV_fn (by decide)]; exact K101 h84 h101 k x s e0 (by omega) hc
  rw [call_F (by decide) h55 F55 rfl R55]; simp only [Try.f55, Option.getD]
  have c1 := run96 h96 l c.p (vClo.enc c) m e0 hl.1 hp
  simp +contextual (maxSteps := 3000000) only [↓code_seq, ↓code_region, ↓code_ret, ↓ops_nil, ↓ops_cons, run_none, ↓run0_v, ↓run0_r, ↓seqK_normal, ↓retK_ret, put_same, put_ne, env0_at, ev_tmp, ev_const, ev_func, oc_int, oc_bool, o_move, o_assign, o_bin, o_call, g_none, bin_geq, resultsOf, oneOrAll, Option.map_some, Option.getD_some, Nat.reduceEqDiff, not_false_eq_true, reduceCtorEq, List.getElem?_cons_zero, List.getElem?_cons_succ, List.map_cons, List.map_nil, List.append_nil, List.nil_append, ge_iff_le, ne_eq, callV_fn (g := 96) (by decide), c1, idxAt_nonneg, Bool.decide_eq_true]
  exact ⟨_, rfl⟩
theorem K55 {I : Nat → Option (List AV → AH → Rs)} (h55 : I 55 = some (pureG g55)) (m : Nat) (l : List (List UInt8)) (ex : Bool) (h : AH) (hl : small l) : call F I T (m + 1) 55 [.lst ex 1 l.length (l.map .str), .fn 56 [] []] h = some (.bool (l.any (!isZone ·)), h) := by
  rw [call_I (by decide) h55]
  refine pureG_flat (by have h1 : flatL (l.map AV.str) = true := flatL_map (fun _ => rfl) l; simp [flatL, AV.flat, h1]) ?_
  have := vList_dec dStr_enc ex l
  show ((vList vStr).dec (.lst ex 1 l.length (l.map vStr.enc))).bind _ = _
  rw [this]
  simp [vClo, dClo, Clo.ok, hl]
  rfl
theorem K55p {I : Nat → Option (List AV → AH → Rs)} (h55 : I 55 = some (pureG g55)) (m : Nat) (l : List (List UInt8)) (s : List UInt8) (b : Nat) (ex : Bool) (h : AH) (hl : small l) (hs : s.length < 140737488355328) (hb : h.get b = some (.cells [.str s] .own)) :
    call F I T (m + 1) 55 [.lst ex 1 l.length (l.map .str), .fn 101 [] [.ptr b 0]] h = some (.bool (l.any (equal · s)), h) := by
  rw [call_I (by decide) h55]
  refine pureG_view (bs := [.lst ex 1 l.length (l.map .str), .fn 101 [] [.fp [.str s]]]) ?_ ?_ ?_ rfl
  · simp [flatL, AV.flat]
  · have h1 : flatL (l.map AV.str) = true := flatL_map (fun _ => rfl) l
    simp [frzMap, frzF, AV.flat, h1, hb]
  · have := vList_dec dStr_enc ex l
    show ((vList vStr).dec (.lst ex 1 l.length (l.map vStr.enc))).bind _ = _
    rw [this]
    simp [vClo, dClo, Clo.ok, hl, hs]
    rfl
/-- Has. -/
noncomputable def g66 := open Classical in G2 (vList vStr) vStr fun l s => if small l ∧ s.length < 140737488355327 then some (.bool (l.any (equal · s))) else none
theorem run66 {I : Nat → Option (List AV → AH → Rs)} (h55 : I 55 = some (pureG g55)) (h66 : I 66 = none) (l : List (List UInt8)) (s : List UInt8) (m : Nat) (hl : small l) (hs : s.length < 140737488355327) :
    ∃ h', call F I T (m + 3) 66 [.lst false 1 l.length (l.map .str), .str s] e0 = some (.bool (l.any (equal · s)), h') := by
  rw [call_F (by decide) h66 F66 rfl R66]; simp only [Try.f66, Option.getD]
  have c1 := fun k => K55p h55 k l s 0 false (e0.alloc (.cells [.str s] .own)) hl (by omega) (by rw [AH.get_alloc]; rfl)
  simp +contextual (maxSteps := 3000000) only [↓code_seq, ↓code_region, ↓code_ret, ↓ops_nil, ↓ops_cons, run_none, ↓run0_v, ↓run0_r, ↓seqK_normal, ↓retK_ret, put_same, put_ne, env0_at, ev_tmp, ev_const, ev_func, oc_bool, o_move, o_assign, o_call, o_box, o_makeFunc, g_none, next_e0, resultsOf, oneOrAll, Option.map_some, Option.getD_some, Nat.reduceEqDiff, not_false_eq_true, reduceCtorEq, List.getElem?_cons_zero, List.getElem?_cons_succ, List.map_cons, List.map_nil, List.append_nil, List.nil_append, ne_eq, box_str, callV_fn (g := 55) (by decide), c1]
  exact ⟨_, rfl⟩
theorem K66 {I : Nat → Option (List AV → AH → Rs)} (h66 : I 66 = some (pureG g66)) (m : Nat) (l : List (List UInt8)) (s : List UInt8) (ex : Bool) (h : AH) (hl : small l) (hs : s.length < 140737488355327) : call F I T (m + 1) 66 [.lst ex 1 l.length (l.map .str), .str s] h = some (.bool (l.any (equal · s)), h) := by
  rw [call_I (by decide) h66]
  refine pureG_flat (by have h1 : flatL (l.map AV.str) = true := flatL_map (fun _ => rfl) l; simp [flatL, AV.flat, h1]) ?_
  have := vList_dec dStr_enc ex l
  show ((vList vStr).dec (.lst ex 1 l.length (l.map vStr.enc))).bind _ = _
  rw [this]
  simp [vStr, dStr, hl, hs]
noncomputable def g67 := open Classical in G2 (vList vStr) vStr fun l s => if small l ∧ s.length < 140737488355327 then some (.int .i64 (idxAt (equal · s) 0 l)) else none
theorem run67 {I : Nat → Option (List AV → AH → Rs)} (h86 : I 86 = some (pureG g86)) (h67 : I 67 = none) (l : List (List UInt8)) (s : List UInt8) (m : Nat) (hl : small l) (hs : s.length < 140737488355327) :
    ∃ h', call F I T (l.length + m + 3) 67 [.lst false 1 l.length (l.map .str), .str s] e0 = some (.int .i64 (idxAt (equal · s) 0 l), h') := by
  have hl0 := hl.1
  rw [call_F (by decide) h67 F67 rfl R67]; simp only [Try.f67, Option.getD]
  simp +contextual (maxSteps := 3000000) only [↓code_seq, ↓code_region, ↓code_block, ↓code_loop, ↓ops_nil, ↓ops_cons, run_none, ↓run0_v, ↓seqK_normal, ev_const, oc_int, o_assign, g_none]
  refine iterL_wp (Q := fun r => ∃ h', r = some (.int .i64 (idxAt (equal · s) 0 l), h')) (N := l.length) (Inv := fun k e h' => ∃ i, k + i = l.length ∧ idxAt (equal · s) 0 l = idxAt (equal · s) i (l.drop i) ∧ e 0 = .lst false 1 l.length (l.map .str) ∧ e 1 = .str s ∧ e 5 = .int .i64 (i : Nat)) ?_ ?_ (by omega)
  · rintro k e h' K' ⟨i, hk, hr, e0, e1, e5⟩ hnext hexit
    by_cases hi : i < l.length
    · have c1 : (i : Int) < (l.length : Int) := by omega
      have c3 := drop_map_0 (f := AV.str) (List.getElem?_eq_getElem hi)
      have c4 := hl.2 l[i] (List.getElem_mem hi)
      have c5 : l[i].length < 140737488355328 := by omega
      have c6 : s.length < 140737488355328 := by omega
      rw [drop_cons hi] at hr
      simp only [idxAt] at hr
      simp +contextual (maxSteps := 3000000) only [↓code_skip, ↓code_seq, ↓code_region, ↓code_cond, ↓code_block, ↓code_ret, aCond_bool, ↓ops_nil, ↓ops_cons, run_none, ↓run0_v, ↓run0_r, ↓seqK_normal, ↓seqK_ret, ↓blkK_normal, ↓blkK_ret, put_same, put_ne, ev_tmp, ev_const, ev_func, oc_int, o_move, o_assign, o_bin, o_call, o_len, o_load, o_indexAddr, g_none, bin_add, bin_lss, decide_eq_true_eq, ↓reduceIte, Nat.reduceEqDiff, not_false_eq_true, reduceCtorEq, List.map_cons, List.map_nil, List.append_nil, List.nil_append, and_true, ne_eq, len_lst T23 d23, ia_lst T23 d23 T9 s9, load_fp1 T9 a9, callV_fn (g := 86) (by decide), K86 h86, e0, e1, e5, c1, c3, c5, c6, cast_nonneg, toNat_cast]
      split
      · rename_i hpx
        rw [if_pos hpx] at hr
        refine hexit _ _ _ (by simp) ⟨h', ?_⟩
        rw [hr]
        simp +contextual (maxSteps := 3000000) only [↓seqK_ret, ↓blkK_ret, ↓retK_ret, put_same, resultsOf, oneOrAll, Option.map_some]
      · rename_i hpx
        refine hnext (k - 1) _ _ (by omega) ⟨i + 1, by omega, ?_, ?_, ?_, ?_⟩
        · rw [hr, if_neg hpx]
        · simp only [put_ne, not_false_eq_true, reduceCtorEq, ne_eq, e0]
        · simp only [put_ne, Nat.reduceEqDiff, not_false_eq_true, ne_eq, e1]
        · simp only [put_same]; rw [wrap_i64 (by omega) (by omega)]; rfl
    · have c1 : ¬ (i : Int) < (l.length : Int) := by omega
      rw [drop_end hi] at hr
      simp only [idxAt] at hr
      simp +contextual (maxSteps := 3000000) only [↓code_seq, ↓code_region, ↓code_cond, ↓code_exit, aCond_bool, ↓ops_nil, ↓ops_cons, run_none, ↓run0_v, ↓seqK_normal, ↓seqK_exit, put_same, put_ne, ev_tmp, o_move, o_bin, o_len, g_none, bin_lss, decide_eq_true_eq, ↓reduceIte, Nat.reduceEqDiff, not_false_eq_true, reduceCtorEq, ne_eq, len_lst T23 d23, e0, e5, c1]
      refine hexit _ _ _ (by simp) ⟨h', ?_⟩
      rw [hr]
      simp +contextual (maxSteps := 3000000) only [↓code_seq, ↓code_region, ↓code_ret, ↓ops_nil, ↓ops_cons, run_none, ↓run0_v, ↓seqK_normal, ↓blkK_exit, ↓retK_ret, put_same, ev_const, oc_int, o_assign, g_none, resultsOf, oneOrAll, Option.map_some, ↓reduceIte]
  · refine ⟨0, by omega, ?_, ?_, ?_, ?_⟩
    · rfl
    · simp only [put_ne, env0_at, Option.getD_some, not_false_eq_true, reduceCtorEq, List.getElem?_cons_zero, ne_eq]
    · simp only [put_ne, env0_at, Option.getD_some, Nat.reduceEqDiff, not_false_eq_true, List.getElem?_cons_zero, List.getElem?_cons_succ, ne_eq]
    · simp only [put_same]; rfl
theorem K67 {I : Nat → Option (List AV → AH → Rs)} (h67 : I 67 = some (pureG g67)) (m : Nat) (l : List (List UInt8)) (s : List UInt8) (ex : Bool) (h : AH) (hl : small l) (hs : s.length < 140737488355327) : call F I T (m + 1) 67 [.lst ex 1 l.length (l.map .str), .str s] h = some (.int .i64 (idxAt (equal · s) 0 l), h) := by
  rw [call_I (by decide) h67]
  refine pureG_flat (by have h1 : flatL (l.map AV.str) = true := flatL_map (fun _ => rfl) l; simp [flatL, AV.flat, h1]) ?_
  have := vList_dec dStr_enc ex l
  show ((vList vStr).dec (.lst ex 1 l.length (l.map vStr.enc))).bind _ = _
  rw [this]
  simp [vStr, dStr, hl, hs]
/-- Lists of zones. -/
def okFrom : List (List UInt8) → List (List UInt8) → Bool
  | _, [] => true
  | pre, x :: xs => isZone x && !(pre.any (equal · x)) && okFrom (pre ++ [x]) xs
def isList (l : List (List UInt8)) : Bool := decide (1 ≤ l.length) && decide (l.length ≤ 40) && okFrom [] l
theorem small_take {l : List (List UInt8)} (h : small l) (i : Nat) : small (l.take i) := ⟨by have := h.1; simp; omega, fun x hx => h.2 x (List.mem_of_mem_take hx)⟩
noncomputable def g24 := open Classical in G1 (vList vStr) fun l => if small l then some (.bool (isList l)) else none
theorem le_cast40 (a : Nat) : (40 < (a : Int)) = (40 < a) := by simp; omega
theorem lt_cast1 (a : Nat) : ((a : Int) < 1) = (a < 1) := by simp; omega
theorem run24 {I : Nat → Option (List AV → AH → Rs)} (h22 : I 22 = none) (h66 : I 66 = some (pureG g66)) (h24 : I 24 = none) (l : List (List UInt8)) (m : Nat) (hl : small l) : ∃ h', call F I T (l.length + m + 4) 24 [.lst false 1 l.length (l.map .str)] e0 = some (.bool (isList l), h') := by
  have hl0 := hl.1
  rw [call_F (by decide) h24 F24 rfl R24]; simp only [Try.f24, Option.getD]
  by_cases hb : l.length < 1 ∨ 40 < l.length
  · have hf : isList l = false := by simp [isList]; intro h1 h2; omega
    rw [hf]
    rcases hb with hb | hb
    · simp +contextual (maxSteps := 3000000) only [↓code_seq, ↓code_region, ↓code_cond, ↓code_ret, aCond_bool, ↓ops_nil, ↓ops_cons, run_none, run_someF, ↓run0_v, ↓seqK_normal, ↓seqK_ret, ↓retK_ret, put_same, put_ne, env0_at, ev_tmp, ev_const, oc_int, oc_bool, o_move, o_assign, o_pick, o_bin, o_len, g_none, g_some, pick_bool, bin_lss, resultsOf, oneOrAll, Option.bind_some, Option.map_some, Option.getD_some, decide_eq_true_eq, ↓reduceIte, Nat.reduceEqDiff, not_false_eq_true, reduceCtorEq, List.getElem?_cons_zero, List.getElem?_cons_succ, List.getElem?_toArray, ne_eq, len_lst T23 d23, lt_cast1, hb]
      exact ⟨_, rfl⟩
    · have hb2 : ¬ l.length < 1 := by omega
      simp +contextual (maxSteps := 3000000) only [↓code_seq, ↓code_region, ↓code_cond, ↓code_ret, aCond_bool, ↓ops_nil, ↓ops_cons, run_none, run_someF, ↓run0_v, ↓seqK_normal, ↓seqK_ret, ↓retK_ret, put_same, put_ne, env0_at, ev_tmp, ev_const, oc_int, oc_bool, o_move, o_assign, o_pick, o_bin, o_len, g_none, g_some, pick_bool, bin_lss, bin_gtr, resultsOf, oneOrAll, Option.bind_some, Option.map_some, Option.getD_some, decide_eq_true_eq, ↓reduceIte, Nat.reduceEqDiff, not_false_eq_true, reduceCtorEq, List.getElem?_cons_zero, List.getElem?_cons_succ, List.getElem?_toArray, gt_iff_lt, ne_eq, len_lst T23 d23, lt_cast1, le_cast40, hb, hb2]
      exact ⟨_, rfl⟩
  · have hb1 : ¬ l.length < 1 := by omega
    have hb2 : ¬ 40 < l.length := by omega
    have hf : isList l = okFrom [] l := by simp [isList]; intro _; omega
    rw [hf]
    simp +contextual (maxSteps := 3000000) only [↓code_skip, ↓code_seq, ↓code_region, ↓code_cond, ↓code_block, ↓code_loop, aCond_bool, ↓ops_nil, ↓ops_cons, run_none, run_someF, ↓run0_v, ↓seqK_normal, put_same, put_ne, env0_at, ev_tmp, ev_const, oc_int, oc_bool, o_move, o_assign, o_pick, o_bin, o_len, g_none, g_some, pick_bool, bin_lss, bin_gtr, Option.bind_some, Option.getD_some, decide_eq_true_eq, ↓reduceIte, Nat.reduceEqDiff, not_false_eq_true, reduceCtorEq, List.getElem?_cons_zero, List.getElem?_cons_succ, List.getElem?_toArray, gt_iff_lt, ne_eq, len_lst T23 d23, lt_cast1, le_cast40, hb1, hb2]
    refine iterL_wp (Q := fun r => ∃ h', r = some (.bool (okFrom [] l), h')) (N := l.length) (Inv := fun k e h' => ∃ i, k + i = l.length ∧ okFrom [] l = okFrom (l.take i) (l.drop i) ∧ e 0 = .lst false 1 l.length (l.map .str) ∧ e 13 = .lst false 1 l.length (l.map .str) ∧ e 14 = .int .i64 l.length ∧ e 15 = .int .i64 (i : Nat)) ?_ ?_ (by omega)
    · rintro k e h' K' ⟨i, hk, hr, e0, e13, e14, e15⟩ hnext hexit
      by_cases hi : i < l.length
      · have c1 : (i : Int) < (l.length : Int) := by omega
        have c3 := drop_map_0 (f := AV.str) (List.getElem?_eq_getElem hi)
        have c4 := hl.2 l[i] (List.getElem_mem hi)
        have c5 := sl_front (f := AV.str) (l := l) (ex := false) T23 d23 T9 s9 (Nat.le_of_lt hi)
        have c6 := small_take hl i
        rw [drop_cons hi] at hr
        simp only [okFrom] at hr
        simp +contextual (maxSteps := 3000000) only [↓code_skip, ↓code_seq, ↓code_region, ↓code_cond, ↓code_block, ↓code_ret, aCond_bool, ↓ops_nil, ↓ops_cons, run_none, run_someF, ↓run0_v, ↓run0_r, ↓seqK_normal, ↓seqK_ret, ↓blkK_normal, ↓blkK_ret, put_same, put_ne, ev_tmp, ev_const, ev_func, oc_int, oc_bool, o_move, o_assign, o_pick, o_bin, o_call, o_load, o_un, o_slice, o_indexAddr, g_none, g_some, pick_bool, bin_add, bin_lss, un_not, Option.bind_some, Option.map_some, Option.map_none, decide_eq_true_eq, ↓reduceIte, Nat.reduceEqDiff, not_false_eq_true, reduceCtorEq, List.getElem?_cons_zero, List.getElem?_cons_succ, List.getElem?_toArray, Bool.false_eq_true, List.map_cons, List.map_nil, List.append_nil, List.nil_append, and_true, Bool.not_eq_eq_eq_not, Bool.not_true, Bool.not_false, ne_eq, ia_lst T23 d23 T9 s9, load_fp1 T9 a9, callV_fn (g := 22) (by decide), K22 h22, callV_fn (g := 66) (by decide), K66 h66, e0, e13, e14, e15, c1, c3, c4, c5, c6, cast_nonneg, toNat_cast]
        split
        · rename_i hz
          refine hexit _ _ _ (by simp) ⟨h', ?_⟩
          rw [hr, hz]
          simp +contextual (maxSteps := 3000000) only [↓seqK_ret, ↓blkK_ret, ↓retK_ret, put_same, resultsOf, oneOrAll, Option.map_some, Bool.false_and]
        · rename_i hz
          have hz' : isZone l[i] = true := by simpa using hz
          split
          · rename_i ha
            refine hexit _ _ _ (by simp) ⟨h', ?_⟩
            rw [hr, ha]
            simp +contextual (maxSteps := 3000000) only [↓seqK_ret, ↓blkK_ret, ↓retK_ret, put_same, resultsOf, oneOrAll, Option.map_some, Bool.not_true, Bool.false_and, Bool.and_false]
          · rename_i ha
            have ha' : ((l.take i).any fun x => equal x l[i]) = false := by simpa using ha
            refine hnext (k - 1) _ _ (by omega) ⟨i + 1, by omega, ?_, ?_, ?_, ?_, ?_⟩
            · rw [hr, hz', ha', take_snoc hi]; rfl
            · simp only [put_ne, not_false_eq_true, reduceCtorEq, ne_eq, e0]
            · simp only [put_ne, Nat.reduceEqDiff, not_false_eq_true, ne_eq, e13]
            · simp only [put_ne, Nat.reduceEqDiff, not_false_eq_true, ne_eq, e14]
            · simp only [put_same]; rw [wrap_i64 (by omega) (by omega)]; rfl
      · have c1 : ¬ (i : Int) < (l.length : Int) := by omega
        rw [drop_end hi] at hr
        simp only [okFrom] at hr
        simp +contextual (maxSteps := 3000000) only [↓code_seq, ↓code_region, ↓code_cond, ↓code_exit, aCond_bool, ↓ops_nil, ↓ops_cons, run_none, ↓run0_v, ↓seqK_normal, ↓seqK_exit, put_same, ev_tmp, o_bin, g_none, bin_lss, decide_eq_true_eq, ↓reduceIte, e14, e15, c1]
        refine hexit _ _ _ (by simp) ⟨h', ?_⟩
        rw [hr]
        simp +contextual (maxSteps := 3000000) only [↓code_seq, ↓code_region, ↓code_ret, ↓ops_nil, ↓ops_cons, run_none, ↓run0_v, ↓seqK_normal, ↓blkK_exit, ↓retK_ret, put_same, ev_const, oc_bool, o_assign, g_none, resultsOf, oneOrAll, Option.map_some, ↓reduceIte]
    · refine ⟨0, by omega, ?_, ?_, ?_, ?_, ?_⟩
      · rfl
      · simp only [put_ne, env0_at, Option.getD_some, not_false_eq_true, reduceCtorEq, List.getElem?_cons_zero, ne_eq]
      · simp only [put_same, put_ne, Nat.reduceEqDiff, not_false_eq_true, ne_eq]
      · simp only [put_same, put_ne, Nat.reduceEqDiff, not_false_eq_true, ne_eq]
      · simp only [put_same]; rfl
theorem K24 {I : Nat → Option (List AV → AH → Rs)} (h24 : I 24 = some (pureG g24)) (m : Nat) (l : List (List UInt8)) (ex : Bool) (h : AH) (hl : small l) : call F I T (m + 1) 24 [.lst ex 1 l.length (l.map .str)] h = some (.bool (isList l), h) := by
  rw [call_I (by decide) h24]
  refine pureG_flat (by have h1 : flatL (l.map AV.str) = true := flatL_map (fun _ => rfl) l; simp [flatL, AV.flat, h1]) ?_
  have := vList_dec dStr_enc ex l
  show ((vList vStr).dec (.lst ex 1 l.length (l.map vStr.enc))).bind _ = _
  rw [this]
  simp [hl]
noncomputable def g25 := open Classical in G1 (vList vStr) fun l => if small l then some (.bool (isList l)) else none
theorem le_cast1' (a : Nat) : (1 ≤ (a : Int)) = (1 ≤ a) := by simp; omega
theorem le_cast40' (a : Nat) : ((a : Int) ≤ 40) = (a ≤ 40) := by simp; omega
theorem run25 {I : Nat → Option (List AV → AH → Rs)} (h23 : I 23 = none) (h67 : I 67 = some (pureG g67)) (h25 : I 25 = none) (l : List (List UInt8)) (m : Nat) (hl : small l) : ∃ h', call F I T (l.length + m + 4) 25 [.lst false 1 l.length (l.map .str)] e0 = some (.bool (isList l), h') := by
  have hl0 := hl.1
  rw [call_F (by decide) h25 F25 rfl R25]; simp only [Try.f25, Option.getD]
  simp +contextual (maxSteps := 3000000) only [↓code_seq, ↓code_region, ↓code_block, ↓code_loop, ↓ops_nil, ↓ops_cons, run_none, ↓run0_v, ↓seqK_normal, ev_const, oc_int, oc_bool, o_assign, g_none]
  refine iterL_wp (Q := fun r => ∃ h', r = some (.bool (isList l), h')) (N := l.length) (Inv := fun k e h' => ∃ i, k + i = l.length ∧ okFrom [] l = okFrom (l.take i) (l.drop i) ∧ e 0 = .lst false 1 l.length (l.map .str) ∧ e 3 = .int .i64 (i : Nat)) ?_ ?_ (by omega)
  · rintro k e h' K' ⟨i, hk, hr, e0, e3⟩ hnext hexit
    by_cases hi : i < l.length
    · have c1 : (i : Int) < (l.length : Int) := by omega
      have c3 := drop_map_0 (f := AV.str) (List.getElem?_eq_getElem hi)
      have c4 := hl.2 l[i] (List.getElem_mem hi)
      have c5 := sl_front (f := AV.str) (l := l) (ex := false) T23 d23 T9 s9 (Nat.le_of_lt hi)
      have c6 := small_take hl i
      rw [drop_cons hi] at hr
      simp only [okFrom] at hr
      have hno : okFrom [] l = false → isList l = false := by intro h; simp [isList, h]
      simp +contextual (maxSteps := 3000000) only [↓code_skip, ↓code_seq, ↓code_region, ↓code_cond, ↓code_block, ↓code_ret, aCond_bool, ↓ops_nil, ↓ops_cons, run_none, run_someF, ↓run0_v, ↓run0_r, ↓seqK_normal, ↓seqK_ret, ↓blkK_normal, ↓blkK_ret, put_same, put_ne, ev_tmp, ev_const, ev_func, oc_int, oc_bool, o_move, o_assign, o_pick, o_bin, o_call, o_len, o_load, o_un, o_slice, o_indexAddr, g_none, g_some, pick_bool, bin_add, bin_lss, bin_geq, un_not, Option.bind_some, Option.map_some, Option.map_none, decide_eq_true_eq, ↓reduceIte, Nat.reduceEqDiff, not_false_eq_true, reduceCtorEq, List.getElem?_cons_zero, List.getElem?_cons_succ, List.getElem?_toArray, Bool.false_eq_true, List.map_cons, List.map_nil, List.append_nil, List.nil_append, and_true, ge_iff_le, Bool.not_eq_eq_eq_not, Bool.not_true, Bool.not_false, ne_eq, len_lst T23 d23, ia_lst T23 d23 T9 s9, load_fp1 T9 a9, callV_fn (g := 23) (by decide), K23 h23, callV_fn (g := 67) (by decide), K67 h67, e0, e3, c1, c3, c4, c5, c6, cast_nonneg, toNat_cast, idxAt_nonneg, Bool.decide_eq_true]
      split
      · rename_i hz
        refine hexit _ _ _ (by simp) ⟨h', ?_⟩
        rw [hno (by rw [hr, hz]; rfl)]
        simp +contextual (maxSteps := 3000000) only [↓seqK_ret, ↓blkK_ret, ↓retK_ret, put_same, resultsOf, oneOrAll, Option.map_some]
      · rename_i hz
        have hz' : isZone l[i] = true := by simpa using hz
        split
        · rename_i ha
          refine hexit _ _ _ (by simp) ⟨h', ?_⟩
          rw [hno (by rw [hr, ha]; simp)]
          simp +contextual (maxSteps := 3000000) only [↓seqK_ret, ↓blkK_ret, ↓retK_ret, put_same, resultsOf, oneOrAll, Option.map_some]
        · rename_i ha
          have ha' : ((l.take i).any fun x => equal x l[i]) = false := by simpa using ha
          refine hnext (k - 1) _ _ (by omega) ⟨i + 1, by omega, ?_, ?_, ?_⟩
          · rw [hr, hz', ha', take_snoc hi]; rfl
          · simp only [put_ne, not_false_eq_true, reduceCtorEq, ne_eq, e0]
          · simp only [put_same]; rw [wrap_i64 (by omega) (by omega)]; rfl
    · have c1 : ¬ (i : Int) < (l.length : Int) := by omega
      rw [drop_end hi] at hr
      simp only [okFrom] at hr
      simp +contextual (maxSteps := 3000000) only [↓code_seq, ↓code_region, ↓code_cond, ↓code_exit, aCond_bool, ↓ops_nil, ↓ops_cons, run_none, ↓run0_v, ↓seqK_normal, ↓seqK_exit, put_same, put_ne, ev_tmp, o_move, o_bin, o_len, g_none, bin_lss, decide_eq_true_eq, ↓reduceIte, Nat.reduceEqDiff, not_false_eq_true, reduceCtorEq, ne_eq, len_lst T23 d23, e0, e3, c1]
      refine hexit _ _ _ (by simp) ⟨h', ?_⟩
      simp only [isList, hr, Bool.and_true]
      simp +contextual (maxSteps := 3000000) only [↓code_seq, ↓code_region, ↓code_ret, ↓ops_nil, ↓ops_cons, run_none, run_someT, ↓run0_v, ↓seqK_normal, ↓blkK_exit, ↓retK_ret, put_same, put_ne, ev_tmp, ev_const, oc_int, oc_bool, o_move, o_assign, o_pick, o_bin, o_len, g_none, g_some, pick_bool, bin_leq, bin_geq, resultsOf, oneOrAll, Option.bind_some, Option.map_some, decide_eq_true_eq, ↓reduceIte, Nat.reduceEqDiff, not_false_eq_true, reduceCtorEq, List.getElem?_cons_zero, List.getElem?_cons_succ, List.getElem?_toArray, ge_iff_le, ne_eq, len_lst T23 d23, e0, le_cast1', le_cast40']
      (repeat' split) <;> simp_all
  · refine ⟨0, by omega, ?_, ?_, ?_⟩
    · rfl
    · simp only [put_ne, env0_at, Option.getD_some, not_false_eq_true, reduceCtorEq, List.getElem?_cons_zero, ne_eq]
    · simp only [put_same]; rfl
theorem K25 {I : Nat → Option (List AV → AH → Rs)} (h25 : I 25 = some (pureG g25)) (m : Nat) (l : List (List UInt8)) (ex : Bool) (h : AH) (hl : small l) : call F I T (m + 1) 25 [.lst ex 1 l.length (l.map .str)] h = some (.bool (isList l), h) := by
  rw [call_I (by decide) h25]
  refine pureG_flat (by have h1 : flatL (l.map AV.str) = true := flatL_map (fun _ => rfl) l; simp [flatL, AV.flat, h1]) ?_
  have := vList_dec dStr_enc ex l
  show ((vList vStr).dec (.lst ex 1 l.length (l.map vStr.enc))).bind _ = _
  rw [this]
  simp [hl]
end Go.AM.X
