/-
  Arguments that come in: slices of integers, truth values.
-/
import Derived.Test.YtjfcpnlacodjjaaVcP
import Derived.Test.YtjfcpnlacodjjaaWirA
namespace Go.Proofs.Ytjfcpnlacodjjaa
open Go Go.RowKit Go.ChangeShapes Go.WideShapes Go.ChangeAt

section
variable {H : Type} {enc : TypeId × Value → H} {W : World}
set_option maxRecDepth 100000 in
theorem open_islice {r : Reach} {b0 : Nat} {v : Value} {d : DataW H} {ps : List MemPlace} (hval : Value.okWide Try.prog W r b0 50 v) (hd : DataW.Trod enc Try.prog W 0 (fun _ => true) true 50 v d ps) :
    ∃ (s : Sl) (l : List Int), v = s.v ∧ SlF itC W s l ∧ (∀ x ∈ l, I64 x) ∧ l.length ≤ Rows.uptoBulk d := by
  obtain ⟨a, len, cap, rfl⟩ := okWide_slice Try.underlying50 hval
  obtain ⟨n, hn⟩ := hd
  have hn : Rd enc Try.prog W 50 [.slice a len cap] d := ⟨n, ps, hn⟩
  obtain ⟨s, l, e, h1, h2, h3⟩ := rd_slice Try.underlying50 (f := itC) (n := 1) (R := I64) (by omega) (by kernel_rfl) (fun _ => rfl) (fun _ _ h => let ⟨x, e, hx⟩ := rd_int Try.underlying3 h; ⟨x, e, hx⟩) hn
  refine ⟨s, l, ?_, h1, h2, h3⟩
  injection e
theorem open_flag {P : Program} {t : TypeId} (ht : P.underlying t = some .bool) {r : Reach} {b0 : Nat} {v : Value} {d : DataW H} {ps : List MemPlace} (hval : Value.okWide P W r b0 t v) (hd : DataW.Trod enc P W 0 (fun _ => true) true t v d ps) : ∃ b : Bool, v = .bool b := by
  obtain ⟨b, e, _⟩ := open_bool ht hval hd
  exact ⟨b, e⟩
end
end Go.Proofs.Ytjfcpnlacodjjaa
