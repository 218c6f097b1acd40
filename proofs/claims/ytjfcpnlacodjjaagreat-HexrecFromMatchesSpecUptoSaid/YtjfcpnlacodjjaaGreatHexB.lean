/-
  Files of hexadecimal records: strings.Cut, by the kit's contract.
-/
import Derived.Test.YtjfcpnlacodjjaaGreatHexA
import Derived.Shelf.Strings.Cut
namespace Go.Proofs.YtjfcpnlacodjjaaGreat
open Go Go.RowKit Go.Shelf

def renH : Shelf.Ren := ⟨fun x => if x = 145 then 58 else if x = 217 then 86 else if x = 219 then 84 else if x = 220 then 76 else if x = 224 then 94 else if x = 225 then 93 else if x = 266 then 97 else if x = 267 then 95 else if x = 314 then 104 else x,
  fun x => if x = 3 then 3 else if x = 4 then 4 else if x = 5 then 5 else if x = 9 then 9 else if x = 46 then 109 else if x = 51 then 140 else if x = 59 then 106 else if x = 146 then 141 else x,
  fun x => if x = 1 then 0 else x⟩
set_option maxRecDepth 100000 in
theorem laysCut : Lays.n145 Tryz.prog renH where
  mixed := by kernel_rfl
  f145 := Tryz.func58.trans (congrArg some (by kernel_rfl))
  f217 := Tryz.func86.trans (congrArg some (by kernel_rfl))
  f219 := Tryz.func84.trans (congrArg some (by kernel_rfl))
  f220 := Tryz.func76.trans (congrArg some (by kernel_rfl))
  f224 := Tryz.func94.trans (congrArg some (by kernel_rfl))
  f225 := Tryz.func93.trans (congrArg some (by kernel_rfl))
  f266 := Tryz.func97.trans (congrArg some (by kernel_rfl))
  f267 := Tryz.func95.trans (congrArg some (by kernel_rfl))
  f314 := Tryz.func104.trans (congrArg some (by kernel_rfl))
  t3 := Tryz.underlying3
  a3 := Tryz.isAgg3
  z3 := Tryz.sizeOf3
  v3 := Tryz.zeroValue3
  t4 := Tryz.underlying4
  a4 := Tryz.isAgg4
  z4 := Tryz.sizeOf4
  v4 := Tryz.zeroValue4
  t5 := Tryz.underlying5
  a5 := Tryz.isAgg5
  z5 := Tryz.sizeOf5
  v5 := Tryz.zeroValue5
  t9 := Tryz.underlying9
  a9 := Tryz.isAgg9
  z9 := Tryz.sizeOf9
  v9 := Tryz.zeroValue9
  t46 := Tryz.underlying109
  a46 := Tryz.isAgg109
  z46 := Tryz.sizeOf109
  v46 := Tryz.zeroValue109
  t51 := Tryz.underlying140
  a51 := Tryz.isAgg140
  z51 := Tryz.sizeOf140
  v51 := Tryz.zeroValue140
  t59 := Tryz.underlying106
  a59 := Tryz.isAgg106
  z59 := Tryz.sizeOf106
  v59 := Tryz.zeroValue106
  t146 := Tryz.underlying141
  a146 := Tryz.isAgg141
  z146 := Tryz.sizeOf141
  v146 := Tryz.zeroValue141
  g1 := by kernel_rfl
/-- what internal/bytealg.MaxLen holds -/
def MaxT (V : World) : Prop := ∃ m : Int, V.cell? ⟨0, 0, none⟩ = some (.int .i64 m)
theorem MaxT.up {V V' : World} (h : MaxT V) (k : Sub V V') : MaxT V' := by
  obtain ⟨m, hm⟩ := h
  exact ⟨m, k.cell hm⟩
theorem cut_spec {V W : World} (hV : Sub V W) (hM : MaxT V) (s sep : List UInt8) (hs : s.length < 4294967281) : Ret Tryz.prog 58 [str s, str sep].toArray W fun v w' => v = .tuple #[str (Lib.cut s sep).1, str (Lib.cut s sep).2.1, .bool (Lib.cut s sep).2.2] ∧ Rel W V [] V w' := by
  obtain ⟨m, hm⟩ := hM.up hV
  refine Ret.ofCalls Tryz.func58 (by kernel_rfl) (by kernel_rfl) (Calls.mono' (Any.strings_Cut laysCut ⟨s.toArray⟩ ⟨sep.toArray⟩ m W (by show s.toArray.size < _; simpa using hs) hm) fun e w' ⟨he, n, hw⟩ => ⟨_, he, rfl, ?_⟩)
  subst hw
  exact Rel.ext (Rel.start hV) ⟨rfl, rfl, rfl, Nat.le_refl _, fun _ _ => rfl⟩
end Go.Proofs.YtjfcpnlacodjjaaGreat
