/-
  Files of hexadecimal records: strings.Cut, by the kit's contract.
-/
import Derived.Test.YtjfcpnlacodjjaaHexA
import Derived.Shelf.Strings.Cut
namespace Go.Proofs.Ytjfcpnlacodjjaa
open Go Go.RowKit Go.Shelf

def renH : Shelf.Ren := ⟨fun x => if x = 145 then 90 else if x = 217 then 129 else if x = 219 then 127 else if x = 220 then 116 else if x = 224 then 138 else if x = 225 then 137 else if x = 266 then 141 else if x = 267 then 139 else if x = 314 then 148 else x,
  fun x => if x = 3 then 3 else if x = 4 then 4 else if x = 5 then 5 else if x = 9 then 9 else if x = 46 then 70 else if x = 51 then 193 else if x = 59 then 138 else if x = 146 then 194 else x,
  fun x => if x = 1 then 0 else x⟩
set_option maxRecDepth 100000 in
theorem laysCut : Lays.n145 Try.prog renH where
  mixed := by kernel_rfl
  f145 := Try.func90.trans (congrArg some (by kernel_rfl))
  f217 := Try.func129.trans (congrArg some (by kernel_rfl))
  f219 := Try.func127.trans (congrArg some (by kernel_rfl))
  f220 := Try.func116.trans (congrArg some (by kernel_rfl))
  f224 := Try.func138.trans (congrArg some (by kernel_rfl))
  f225 := Try.func137.trans (congrArg some (by kernel_rfl))
  f266 := Try.func141.trans (congrArg some (by kernel_rfl))
  f267 := Try.func139.trans (congrArg some (by kernel_rfl))
  f314 := Try.func148.trans (congrArg some (by kernel_rfl))
  t3 := Try.underlying3
  a3 := Try.isAgg3
  z3 := Try.sizeOf3
  v3 := Try.zeroValue3
  t4 := Try.underlying4
  a4 := Try.isAgg4
  z4 := Try.sizeOf4
  v4 := Try.zeroValue4
  t5 := Try.underlying5
  a5 := Try.isAgg5
  z5 := Try.sizeOf5
  v5 := Try.zeroValue5
  t9 := Try.underlying9
  a9 := Try.isAgg9
  z9 := Try.sizeOf9
  v9 := Try.zeroValue9
  t46 := Try.underlying70
  a46 := Try.isAgg70
  z46 := Try.sizeOf70
  v46 := Try.zeroValue70
  t51 := Try.underlying193
  a51 := Try.isAgg193
  z51 := Try.sizeOf193
  v51 := Try.zeroValue193
  t59 := Try.underlying138
  a59 := Try.isAgg138
  z59 := Try.sizeOf138
  v59 := Try.zeroValue138
  t146 := Try.underlying194
  a146 := Try.isAgg194
  z146 := Try.sizeOf194
  v146 := Try.zeroValue194
  g1 := by kernel_rfl
/-- what internal/bytealg.MaxLen holds -/
def MaxT (V : World) : Prop := ∃ m : Int, V.cell? ⟨0, 0, none⟩ = some (.int .i64 m)
theorem MaxT.up {V V' : World} (h : MaxT V) (k : Sub V V') : MaxT V' := by
  obtain ⟨m, hm⟩ := h
  exact ⟨m, k.cell hm⟩
theorem cut_spec {V W : World} (hV : Sub V W) (hM : MaxT V) (s sep : List UInt8) (hs : s.length < 4294967281) : Ret Try.prog 90 [str s, str sep].toArray W fun v w' => v = .tuple #[str (Lib.cut s sep).1, str (Lib.cut s sep).2.1, .bool (Lib.cut s sep).2.2] ∧ Rel W V [] V w' := by
  obtain ⟨m, hm⟩ := hM.up hV
  refine Ret.ofCalls Try.func90 (by kernel_rfl) (by kernel_rfl) (Calls.mono' (Any.strings_Cut laysCut ⟨s.toArray⟩ ⟨sep.toArray⟩ m W (by show s.toArray.size < _; simpa using hs) hm) fun e w' ⟨he, n, hw⟩ => ⟨_, he, rfl, ?_⟩)
  subst hw
  exact Rel.ext (Rel.start hV) ⟨rfl, rfl, rfl, Nat.le_refl _, fun _ _ => rfl⟩
end Go.Proofs.Ytjfcpnlacodjjaa
