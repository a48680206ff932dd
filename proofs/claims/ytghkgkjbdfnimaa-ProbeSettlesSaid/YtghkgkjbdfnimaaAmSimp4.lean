/- Code with open regions by simp, as far as they: equations. Own work. -/
import Derived.Test.YtghkgkjbdfnimaaAmSimp3
namespace Go.AM.Sx
open Go Go.AM
set_option linter.unusedVariables false
theorem call_code {F I T n f args h fi} (hY : Nat.beq f YLD = false) (hI : I f = none) (hF : F f = some fi) (hr : fi.rf = false) :
    call F I T (n + 1) f args h = code (call F I T n) T n false fi.body (env0 args) h (retK T fi.results) := by
  simp [call, hY, hI, hF, body, hr]
section
variable {C : Cf} {T : TT} {n : Nat} {rf : Bool} {all : Array Oper} {e : Env} {h : AH} {K : Kt}
theorem cd_skip : code C T n rf .skip e h K = K .normal e h := (rfl)
theorem cd_seq {a b} : code C T n rf (.seq a b) e h K = code C T n rf a e h (seqK (code C T n rf b) K) := (rfl)
theorem cd_region {id} : code C T n rf (.region id all false) e h K = ops C T all all.toList e h (K .normal) := (rfl)
theorem cd_cond {c x y} : code C T n rf (.cond c x y) e h K = aCond (ev e c) (code C T n rf x e h K) (code C T n rf y e h K) := (rfl)
theorem cd_block {id c} : code C T n rf (.block id c) e h K = code C T n rf c e h (blkK id K) := (rfl)
theorem cd_loop {c} : code C T n rf (.loop c) e h K = iterL n (code C T n rf c) e h K := (rfl)
theorem cd_exit {id} : code C T n rf (.exit id) e h K = K (.exit id) e h := (rfl)
theorem cd_ret : code C T n rf .ret e h K = K .ret e h := (rfl)
theorem same_int {k : IntKind} {n : Int} : sameV (.int k n) (.int k n) = true := by simp [sameV]
theorem same_ptr {a b : Nat} : sameV (.ptr a b) (.ptr a b) = true := by simp [sameV]
theorem same_sl {a b c d f : Nat} {x : Bool} : sameV (.sl a b c d f x) (.sl a b c d f x) = true := by simp [sameV]
theorem same_str {s : List UInt8} : sameV (.str s) (.str s) = true := by simp [sameV]
theorem same_bool {b : Bool} : sameV (.bool b) (.bool b) = true := by simp [sameV]
theorem same_nils : sameV .nils .nils = true := rfl
theorem same_nilp : sameV .nilp .nilp = true := rfl
theorem same_mp {a : Nat} : sameV (.mp a) (.mp a) = true := by simp [sameV]
theorem same_lst {x : Bool} {a b : Nat} {cs : List AV} (h : sameL cs cs = true) : sameV (.lst x a b cs) (.lst x a b cs) = true := by simp [sameV, h]
theorem o_lookup {dst : Option Nat} {t x k ok} {type : TypeId} {pos : String} {after : Array Edge} {guard : Option (Nat × Bool)} : outOf C T ⟨dst, .lookup t x k ok, type, pos, after, guard⟩ e h = .v (aLookup T t (ev e x) (ev e k) ok h) := (rfl)
theorem o_mapUpdate {dst : Option Nat} {t m k x} {type : TypeId} {pos : String} {after : Array Edge} {guard : Option (Nat × Bool)} : outOf C T ⟨dst, .mapUpdate t m k x, type, pos, after, guard⟩ e h = .h (aMapUpd T t (ev e m) (ev e k) (ev e x) h) := (rfl)
theorem o_makeMapR {dst : Option Nat} {t r} {type : TypeId} {pos : String} {after : Array Edge} {guard : Option (Nat × Bool)} : outOf C T ⟨dst, .makeMap t (some r), type, pos, after, guard⟩ e h = .r (aMakeMap T t (some (ev e r)) h) := (rfl)
theorem o_makeMap {dst : Option Nat} {t} {type : TypeId} {pos : String} {after : Array Edge} {guard : Option (Nat × Bool)} : outOf C T ⟨dst, .makeMap t none, type, pos, after, guard⟩ e h = .r (some (.mp h.next, h.alloc (.map []))) := (rfl)
theorem pn_eql {t ti el b o} (ht : T t = some ti) (hd : ti.desc = .pointer el) : aBin T .eql t (.ptr b o) .nilp h = some (.bool false) := by simp [aBin, eqV, ht, hd]
theorem pn_neq {t ti el b o} (ht : T t = some ti) (hd : ti.desc = .pointer el) : aBin T .neq t (.ptr b o) .nilp h = some (.bool true) := by simp [aBin, eqV, ht, hd]
theorem nn_eql {t ti el} (ht : T t = some ti) (hd : ti.desc = .pointer el) : aBin T .eql t .nilp .nilp h = some (.bool true) := by simp [aBin, eqV, ht, hd]
theorem nn_neq {t ti el} (ht : T t = some ti) (hd : ti.desc = .pointer el) : aBin T .neq t .nilp .nilp h = some (.bool false) := by simp [aBin, eqV, ht, hd]
end
end Go.AM.Sx
