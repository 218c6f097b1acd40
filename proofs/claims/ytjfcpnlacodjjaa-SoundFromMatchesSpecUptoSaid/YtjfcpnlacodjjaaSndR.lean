/-
  Sound files: what To and From answer, plain facts.
-/
import Derived.Test.YtjfcpnlacodjjaaSndP
import Derived.Test.YtjfcpnlacodjjaaSndE
import Derived.Test.YtjfcpnlacodjjaaValE
import Derived.Test.YtjfcpnlacodjjaaValG
namespace Go.Proofs.Ytjfcpnlacodjjaa
open Go Go.RowKit

abbrev sRate : List UInt8 := [114, 97, 116, 101]
abbrev sChannels : List UInt8 := [99, 104, 97, 110, 110, 101, 108, 115]
abbrev sSamples : List UInt8 := [115, 97, 109, 112, 108, 101, 115]
abbrev numV (n : Int) : Val := .mk 1 n [] [] []
abbrev bytV (b : List UInt8) : Val := .mk 2 0 b [] []
abbrev sndVal (rate ch : Int) (b : List UInt8) : Val := .mk 4 0 [] [sRate, sChannels, sSamples] [numV rate, numV ch, bytV b]
def sndPcm (l : List Int) : List UInt8 := l.flatMap fun v => unitB true (unitOf true v)
theorem range_get {α : Type} {f : Nat → List α} {g : Nat → List α} {n : Nat} (h : ∀ i, i < n → f i = g i) : (List.range n).flatMap f = (List.range n).flatMap g := by
  rw [List.flatMap_def, List.flatMap_def]
  congr 1
  exact List.map_congr_left fun i hi => h i (List.mem_range.1 hi)
theorem range_flat {α β : Type} [Inhabited α] {f : α → List β} (l : List α) : (List.range l.length).flatMap (fun i => f (l[i]?.getD default)) = l.flatMap f := by
  induction l with
  | nil => rfl
  | cons x l ih =>
    rw [List.length_cons, List.range_succ_eq_map, List.flatMap_cons, List.flatMap_map, List.flatMap_cons]
    congr 1
theorem sndBytes_pcm (l : List Int) (ch : Nat) : sndBytes l 1 ch = sndPcm l := by
  unfold sndBytes sndPcm
  rw [← range_flat (f := fun v : Int => unitB true (unitOf true v)) l]
  refine range_get fun i hi => ?_
  unfold toDiff
  rw [if_neg (by simp [isDiff])]
  simp only [List.getElem?_map, List.getElem?_eq_getElem hi, Option.map_some, Option.getD_some]
  rfl
theorem sndPcm_len (l : List Int) : (sndPcm l).length = 2 * l.length := by
  unfold sndPcm
  induction l with
  | nil => rfl
  | cons x l ih => rw [List.flatMap_cons, List.length_append, ih]; simp [unitB]; omega
def sndParts (cs : List Chk) : Option (List UInt8 × List UInt8) := match cs.filter isFD with
  | [f, d] => if f.1 = 70 ∧ d.1 = 68 then some (f.2, d.2) else none
  | _ => none
structure Snd where
  rate : Nat
  ch : Nat
  coding : Nat
  smp : List Int
  notes : List Note
def fOk (f d : List UInt8) : Prop := f.length = 4 ∧ (1 ≤ at8 f 2 ∧ at8 f 2 ≤ 2) ∧ at8 f 3 < 4 ∧ d.length % ((at8 f 3 % 2 + 1) * at8 f 2) = 0
instance (f d : List UInt8) : Decidable (fOk f d) := by unfold fOk; infer_instance
def sndOf (f d : List UInt8) (ns : List Note) : Snd := ⟨256 * at8 f 0 + at8 f 1, at8 f 2, at8 f 3, sndVals d (at8 f 3) (at8 f 2), ns⟩
def sndCs (cs : List Chk) : Option Snd := match sndParts cs with
  | none => none
  | some (f, d) => if fOk f d then some (sndOf f d (notesF 0 cs)) else none
def sndFile (b : List UInt8) : Option Snd := match sndChks b with
  | none => none
  | some cs => sndCs cs
def sndAns (x : Snd) : Option (Val × List UInt8) := if (vfault (sndVal x.rate x.ch (sndPcm x.smp))).1 ≠ 0 then none else some (sndVal x.rate x.ch (sndPcm x.smp), sndRes x.coding x.notes)
def sndTo (b : List UInt8) : Option (Val × List UInt8) := match sndFile b with
  | none => none
  | some x => sndAns x
/-! ### samples, there and back -/
theorem mod_there {r x full : Nat} (hr : r < full) (hx : x < full) : ((r + x) % full + full - x) % full = r := by
  by_cases h : r + x < full
  · have e : (r + x) % full = r + x := Nat.mod_eq_of_lt h
    rw [e, show r + x + full - x = r + full by omega, Nat.add_mod_right, Nat.mod_eq_of_lt hr]
  · have e : (r + x) % full = r + x - full := by rw [Nat.mod_eq_sub_mod (by omega), Nat.mod_eq_of_lt (by omega)]
    rw [e, show r + x - full + full - x = r by omega, Nat.mod_eq_of_lt hr]
theorem mod_back {r x full : Nat} (hr : r < full) (hx : x < full) : ((r + full - x) % full + x) % full = r := by
  by_cases h : x ≤ r
  · have e : (r + full - x) % full = r - x := by rw [show r + full - x = (r - x) + full by omega, Nat.add_mod_right, Nat.mod_eq_of_lt (by omega)]
    rw [e, show r - x + x = r by omega, Nat.mod_eq_of_lt hr]
  · have e : (r + full - x) % full = r + full - x := Nat.mod_eq_of_lt (by omega)
    rw [e, show r + full - x + x = r + full by omega, Nat.add_mod_right, Nat.mod_eq_of_lt hr]
theorem unitOf_val (w : Bool) {u : Nat} (h : u < fullOf w) : unitOf w (valOfU w u) = u := by
  unfold unitOf valOfU
  unfold fullOf at h
  cases w with
  | true =>
    simp only [if_true] at h ⊢
    split <;> omega
  | false =>
    simp only [Bool.false_eq_true, if_false] at h ⊢
    omega
theorem unDiff_at {df : Bool} {ch full : Nat} {l : List Nat} {i r : Nat} (h : l[i]? = some r) : (unDiff df ch full l)[i]? = some (if df = true ∧ ch ≤ i then (r + (unDiff df ch full (l.take i))[i - ch]?.getD 0) % full else r) := by
  have hlt := (List.getElem?_eq_some_iff.1 h).1
  have key : ∀ (b acc : List Nat), ∃ x, b.foldl (fun acc r => acc ++ [if df = true ∧ ch ≤ acc.length then (r + acc[acc.length - ch]?.getD 0) % full else r]) acc = acc ++ x := by
    intro b
    induction b with
    | nil => intro acc; exact ⟨[], by simp⟩
    | cons y b ih =>
      intro acc
      obtain ⟨x, hx⟩ := ih (acc ++ [if df = true ∧ ch ≤ acc.length then (y + acc[acc.length - ch]?.getD 0) % full else y])
      exact ⟨_, by rw [List.foldl_cons, hx, List.append_assoc]⟩
  have pre : ∀ (a b : List Nat), ∃ x, unDiff df ch full (a ++ b) = unDiff df ch full a ++ x := fun a b => by
    obtain ⟨x, hx⟩ := key b (unDiff df ch full a)
    exact ⟨x, by rw [← hx]; unfold unDiff; rw [List.foldl_append]⟩
  obtain ⟨x, hx⟩ := pre (l.take (i + 1)) (l.drop (i + 1))
  rw [List.take_append_drop] at hx
  have hl : (unDiff df ch full (l.take i)).length = i := by rw [unDiff_len, List.length_take]; omega
  rw [hx, unDiff_take h, List.append_assoc, List.getElem?_append_right (by omega), hl]
  simp
theorem unDiff_pre {df : Bool} {ch full : Nat} {l : List Nat} {i j : Nat} (hj : j < i) (hi : i ≤ l.length) : (unDiff df ch full (l.take i))[j]? = (unDiff df ch full l)[j]? := by
  have h1 : (l.take i)[j]? = some l[j] := by rw [List.getElem?_take, if_pos hj, List.getElem?_eq_getElem]
  rw [unDiff_at h1, unDiff_at (List.getElem?_eq_getElem (by omega) : l[j]? = some l[j]), List.take_take, Nat.min_eq_left (by omega)]
theorem toDiff_un {df : Bool} {ch full : Nat} {l : List Nat} (h : ∀ r ∈ l, r < full) (hf : 0 < full) (hch : 1 ≤ ch) {i : Nat} (hi : i < l.length) : toDiff df ch full (unDiff df ch full l) i = l[i] := by
  have h1 := unDiff_at (df := df) (ch := ch) (full := full) (List.getElem?_eq_getElem hi)
  have hr := h _ (List.getElem_mem hi)
  unfold toDiff
  by_cases hd : df = true ∧ ch ≤ i
  · rw [if_pos hd, h1, Option.getD_some, if_pos hd, unDiff_pre (by omega) (by omega)]
    have hb := unDiff_lt (df := df) (ch := ch) h hf (i - ch)
    generalize (unDiff df ch full l)[i - ch]?.getD 0 = x at hb
    generalize l[i] = r at hr
    exact mod_there hr hb
  · rw [if_neg hd, h1, Option.getD_some, if_neg hd]
theorem unDiff_to {df : Bool} {ch full : Nat} (hf : 0 < full) (hch : 1 ≤ ch) (U : List Nat) (h : ∀ i : Nat, U[i]?.getD 0 < full) : ∀ k, k ≤ U.length → unDiff df ch full ((List.range k).map (toDiff df ch full U)) = U.take k
  | 0, _ => rfl
  | k + 1, hk => by
    have ih := unDiff_to (df := df) (ch := ch) hf hch U h k (by omega)
    rw [List.range_succ, List.map_append, List.map_singleton, unDiff_snoc, ih, List.take_succ_eq_append_getElem (by omega)]
    congr 1
    have hl : (U.take k).length = k := by simp; omega
    rw [hl]
    have e0 : U[k]?.getD 0 = U[k] := by rw [List.getElem?_eq_getElem (by omega)]; rfl
    have b0 := h k
    rw [e0] at b0
    by_cases hd : df = true ∧ ch ≤ k
    · rw [if_pos hd, List.getElem?_take, if_pos (by omega)]
      unfold toDiff
      rw [if_pos hd, e0]
      have b1 := h (k - ch)
      generalize U[k - ch]?.getD 0 = x at b1
      generalize U[k] = r at b0
      exact congrArg (fun z => [z]) (mod_back b0 b1)
    · rw [if_neg hd]
      unfold toDiff
      rw [if_neg hd, e0]
theorem flat2_len (f : Nat → List UInt8) (m n : Nat) (h : ∀ i, i < n → (f i).length = m) : ((List.range n).flatMap f).length = n * m := by
  induction n with
  | zero => simp
  | succ n ih => rw [List.range_succ, List.flatMap_append, List.length_append, ih (fun i hi => h i (by omega))]; simp [h n (by omega), Nat.succ_mul]
theorem raw_unitB (w : Bool) (d : List UInt8) (hev : w = true → d.length % 2 = 0) : (List.range (rawU w d).length).flatMap (fun i => unitB w ((rawU w d)[i]?.getD 0)) = d := by
  cases w with
  | false =>
    have e : ∀ i, i < d.length → unitB false ((rawU false d)[i]?.getD 0) = [d[i]?.getD 0] := fun i hi => by
      rw [rawU_byte hi]
      simp [unitB, at8]
    rw [rawU_len, if_neg (by simp), range_get e]
    exact (range_flat (f := fun x : UInt8 => [x]) d).trans (by simp)
  | true =>
    have hl := hev rfl
    rw [rawU_len, if_pos rfl]
    have key : ∀ n, 2 * n ≤ d.length → (List.range n).flatMap (fun i => unitB true ((rawU true d)[i]?.getD 0)) = d.take (2 * n) := by
      intro n
      induction n with
      | zero => intro _; rfl
      | succ n ih =>
        intro hn
        rw [List.range_succ, List.flatMap_append, ih (by omega), show 2 * (n + 1) = 2 * n + 1 + 1 by omega, List.take_succ_eq_append_getElem (by omega), List.take_succ_eq_append_getElem (by omega), List.append_assoc]
        congr 1
        rw [List.flatMap_cons, List.flatMap_nil, List.append_nil, rawU_wide (by omega), Option.getD_some]
        simp only [unitB, if_true, at8_get (show 2 * n < d.length by omega), at8_get (show 2 * n + 1 < d.length by omega)]
        have a := d[2 * n].toNat_lt
        have b := d[2 * n + 1].toNat_lt
        rw [show (d[2 * n].toNat + 256 * d[2 * n + 1].toNat) % 256 = d[2 * n].toNat by omega, show (d[2 * n].toNat + 256 * d[2 * n + 1].toNat) / 256 = d[2 * n + 1].toNat by omega]
        simp
    rw [key _ (by omega), List.take_of_length_le (by omega)]
theorem fullOf_pos (w : Bool) : 0 < fullOf w := by unfold fullOf; split <;> omega
/-- what is decoded is encoded again as it was -/
theorem sndBytes_vals {d : List UInt8} {coding ch : Nat} (hch : 1 ≤ ch) (hev : isWide coding = true → d.length % 2 = 0) : sndBytes (sndVals d coding ch) coding ch = d := by
  have hr := rawU_lt (isWide coding) d
  have hU : (sndVals d coding ch).map (unitOf (isWide coding)) = unDiff (isDiff coding) ch (fullOf (isWide coding)) (rawU (isWide coding) d) := by
    unfold sndVals
    rw [List.map_map]
    conv => rhs; rw [← List.map_id (unDiff (isDiff coding) ch (fullOf (isWide coding)) (rawU (isWide coding) d))]
    refine List.map_congr_left fun u hu => unitOf_val _ ?_
    exact unDiff_mem (fullOf_pos _) _ _ rfl hr u hu
  have hl : (sndVals d coding ch).length = (rawU (isWide coding) d).length := by rw [sndVals, List.length_map, unDiff_len]
  unfold sndBytes
  rw [hU, hl]
  conv => rhs; rw [← raw_unitB (isWide coding) d hev]
  refine range_get fun i hi => ?_
  rw [toDiff_un hr (fullOf_pos _) hch hi, List.getElem?_eq_getElem hi, Option.getD_some]
/-- a value that the width can hold -/
def fits (w : Bool) (x : Int) : Prop := -32768 ≤ x ∧ x ≤ 32767 ∧ (w = false → x % 256 = 0)
theorem val_unit {w : Bool} {x : Int} (h : fits w x) : valOfU w (unitOf w x) = x := by
  obtain ⟨h1, h2, h3⟩ := h
  unfold unitOf valOfU
  cases w with
  | true =>
    simp only [if_true]
    split <;> omega
  | false =>
    have := h3 rfl
    simp only [Bool.false_eq_true, if_false]
    omega
theorem raw_of_unitB (w : Bool) (R : List Nat) (h : ∀ r ∈ R, r < fullOf w) : rawU w (R.flatMap (unitB w)) = R := by
  cases w with
  | false =>
    have e : R.flatMap (unitB false) = R.map UInt8.ofNat := by
      induction R with
      | nil => rfl
      | cons r R ih => rw [List.flatMap_cons, ih (fun x hx => h x (by simp [hx]))]; simp [unitB]
    refine List.ext_getElem? fun i => ?_
    by_cases hi : i < R.length
    · rw [rawU_byte (by rw [e]; simpa using hi), e]
      have hb : R[i] < 256 := h _ (List.getElem_mem hi)
      simp only [at8, List.getElem?_map, List.getElem?_eq_getElem hi, Option.map_some, Option.getD_some]
      rw [toNat_ofNat_lt hb]
    · rw [List.getElem?_eq_none (by rw [rawU_len, if_neg (by simp), e]; simp; omega), List.getElem?_eq_none (by omega)]
  | true =>
    have hlen : (R.flatMap (unitB true)).length = 2 * R.length := by
      clear h
      induction R with
      | nil => rfl
      | cons r R ih => rw [List.flatMap_cons, List.length_append, ih]; simp [unitB]; omega
    have hat : ∀ (R : List Nat) (i : Nat) (hi : i < R.length), R[i] < 65536 → at8 (R.flatMap (unitB true)) (2 * i) = R[i] % 256 ∧ at8 (R.flatMap (unitB true)) (2 * i + 1) = R[i] / 256 := by
      intro R
      induction R with
      | nil => intro i hi; simp at hi
      | cons r R ih =>
        intro i hi hb
        have e : (r :: R).flatMap (unitB true) = UInt8.ofNat (r % 256) :: UInt8.ofNat (r / 256) :: R.flatMap (unitB true) := rfl
        cases i with
        | zero =>
          simp only [List.getElem_cons_zero] at hb ⊢
          rw [e]
          simp only [at8, Nat.mul_zero, List.getElem?_cons_zero, Option.getD_some, Nat.zero_add, List.getElem?_cons_succ]
          rw [toNat_ofNat_lt (by omega), toNat_ofNat_lt (by omega)]
          exact ⟨rfl, rfl⟩
        | succ i =>
          have := ih i (by simpa using hi) (by simpa using hb)
          rw [e]
          simp only [at8, show 2 * (i + 1) = 2 * i + 1 + 1 by omega, List.getElem?_cons_succ, List.getElem_cons_succ] at this ⊢
          exact this
    refine List.ext_getElem? fun i => ?_
    by_cases hi : i < R.length
    · rw [rawU_wide (by omega), List.getElem?_eq_getElem hi]
      have hb : R[i] < 65536 := h _ (List.getElem_mem hi)
      obtain ⟨a, b⟩ := hat R i hi hb
      rw [a, b]
      congr 1
      omega
    · rw [List.getElem?_eq_none (by rw [rawU_len, if_pos rfl]; omega), List.getElem?_eq_none (by omega)]
/-- what is encoded is decoded again as it was -/
theorem sndVals_bytes {l : List Int} {coding ch : Nat} (hch : 1 ≤ ch) (h : ∀ x ∈ l, fits (isWide coding) x) : sndVals (sndBytes l coding ch) coding ch = l := by
  have hU := units_lt (isWide coding) l
  obtain ⟨U, hUe⟩ : ∃ U, U = l.map (unitOf (isWide coding)) := ⟨_, rfl⟩
  have hUl : U.length = l.length := by rw [hUe, List.length_map]
  have e : sndBytes l coding ch = ((List.range U.length).map (toDiff (isDiff coding) ch (fullOf (isWide coding)) U)).flatMap (unitB (isWide coding)) := by
    unfold sndBytes
    rw [List.flatMap_map, hUl, hUe]
  rw [← hUe] at hU
  unfold sndVals
  rw [e, raw_of_unitB _ _ (by
    intro r hr
    obtain ⟨i, _, rfl⟩ := List.mem_map.1 hr
    exact toDiff_lt (fullOf_pos _) hU i), unDiff_to (fullOf_pos _) hch U hU _ (Nat.le_refl _), List.take_length, hUe, List.map_map]
  conv => rhs; rw [← List.map_id l]
  exact List.map_congr_left fun x hx => val_unit (h x hx)
theorem sndVals_range {d : List UInt8} {coding ch : Nat} : ∀ x ∈ sndVals d coding ch, -32768 ≤ x ∧ x ≤ 32767 := by
  intro x hx
  obtain ⟨u, hu, rfl⟩ := List.mem_map.1 hx
  have hb := unDiff_mem (fullOf_pos (isWide coding)) _ _ rfl (rawU_lt (isWide coding) d) u hu
  unfold valOfU
  unfold fullOf at hb
  generalize isWide coding = w at hb ⊢
  cases w with
  | true => simp only [if_true] at hb ⊢; split <;> omega
  | false => simp only [Bool.false_eq_true, if_false] at hb ⊢; omega
/-! ### the file of a sound -/
def frmB (rate ch coding : Nat) : List UInt8 := [UInt8.ofNat (rate / 256), UInt8.ofNat (rate % 256), UInt8.ofNat ch, UInt8.ofNat coding]
def sndOwn (rate ch coding : Nat) (l : List Int) : List Chk := [(70, frmB rate ch coding), (68, sndBytes l coding ch)]
def sndWrite (rate ch coding : Nat) (l : List Int) (ns : List Note) : List UInt8 := [83, 78, 68, 49] ++ ((weave (ns.length + 2) 0 ns (sndOwn rate ch coding l)).flatMap putChk ++ [0])
structure ShapeOk (v r c s : Val) : Prop where
  kind : v.kind = 4
  names : v.names = [sRate, sChannels, sSamples]
  rk : r.kind = 1
  ck : c.kind = 1
  sk : s.kind = 2
  r0 : 0 ≤ r.num ∧ r.num ≤ 65535
  c0 : 1 ≤ c.num ∧ c.num ≤ 2
  s0 : s.bytes.length % (2 * c.num.toNat) = 0
instance (v r c s : Val) : Decidable (ShapeOk v r c s) := decidable_of_iff (v.kind = 4 ∧ v.names = [sRate, sChannels, sSamples] ∧ r.kind = 1 ∧ c.kind = 1 ∧ s.kind = 2 ∧ (0 ≤ r.num ∧ r.num ≤ 65535) ∧ (1 ≤ c.num ∧ c.num ≤ 2) ∧ s.bytes.length % (2 * c.num.toNat) = 0) ⟨fun ⟨a, b, c, d, e, f, g, h⟩ => ⟨a, b, c, d, e, f, g, h⟩, fun ⟨a, b, c, d, e, f, g, h⟩ => ⟨a, b, c, d, e, f, g, h⟩⟩
def sndShape (v : Val) : Option (Nat × Nat × List UInt8) := match v.parts with
  | [r, c, s] => if ShapeOk v r c s then some (r.num.toNat, c.num.toNat, s.bytes) else none
  | _ => none
noncomputable instance : DecidableEq Val := fun a b => Classical.propDecidable (a = b)
noncomputable def sndMake (v : Val) (b : List UInt8) : Option (List UInt8) := match sndShape v, sndRd b with
  | some (rate, ch, s), some (coding, ns) => if (sndWrite rate ch coding (sndVals s 1 ch) ns).length ≤ 1000 ∧ sndTo (sndWrite rate ch coding (sndVals s 1 ch) ns) = some (v, b) then some (sndWrite rate ch coding (sndVals s 1 ch) ns) else none
  | _, _ => none
end Go.Proofs.Ytjfcpnlacodjjaa
namespace Go.Proofs.Ytjfcpnlacodjjaa
open Go Go.RowKit

theorem filter_two {cs : List Chk} {f d : List UInt8} (h : sndParts cs = some (f, d)) : cs.filter isFD = [(70, f), (68, d)] := by
  unfold sndParts at h
  split at h
  · rename_i x y hf
    split at h
    · rename_i hk
      cases h
      obtain ⟨x1, x2⟩ := x
      obtain ⟨y1, y2⟩ := y
      obtain ⟨h1, h2⟩ := hk
      dsimp only at h1 h2
      subst h1 h2
      exact hf
    · cases h
  · cases h
theorem parts_two {cs : List Chk} {f d : List UInt8} (h : cs.filter isFD = [(70, f), (68, d)]) : sndParts cs = some (f, d) := by
  unfold sndParts
  rw [h]
  simp
/-- what a readable file tells -/
structure SndIs (b : List UInt8) (cs : List Chk) (f d : List UInt8) (x : Snd) : Prop where
  chks : sndChks b = some cs
  bytes : b = [83, 78, 68, 49] ++ (cs.flatMap putChk ++ [0])
  ok : ∀ c ∈ cs, chkOk c
  two : cs.filter isFD = [(70, f), (68, d)]
  fok : fOk f d
  eq : x = sndOf f d (notesF 0 cs)
theorem sndFile_some {b : List UInt8} {x : Snd} (h : sndFile b = some x) : ∃ cs f d, SndIs b cs f d x := by
  unfold sndFile at h
  split at h
  · cases h
  · rename_i cs hc
    unfold sndCs at h
    split at h
    · cases h
    · rename_i f d hp
      split at h
      · rename_i hk
        cases h
        refine ⟨cs, f, d, hc, ?_, ?_, filter_two hp, hk, rfl⟩
        all_goals
          unfold sndChks at hc
          split at hc
          · rename_i h4
            obtain ⟨h1, h2⟩ := chks_some _ _ _ (Nat.le_refl _) hc
            first
              | exact h2
              | (conv => lhs; rw [← List.take_append_drop 4 b, h4, h1])
          · cases hc
      · cases h
theorem chks_file {cs : List Chk} (h : ∀ c ∈ cs, chkOk c) : sndChks ([83, 78, 68, 49] ++ (cs.flatMap putChk ++ [0])) = some cs := by
  unfold sndChks
  have e : ([83, 78, 68, 49] ++ (cs.flatMap putChk ++ [0])).take 4 = [83, 78, 68, 49] := by simp
  rw [if_pos e]
  exact chks_put cs h
theorem frm_at {rate ch coding : Nat} (h1 : rate ≤ 65535) (h2 : ch < 256) (h3 : coding < 256) : at8 (frmB rate ch coding) 0 = rate / 256 ∧ at8 (frmB rate ch coding) 1 = rate % 256 ∧ at8 (frmB rate ch coding) 2 = ch ∧ at8 (frmB rate ch coding) 3 = coding := by
  simp only [at8, frmB, List.getElem?_cons_zero, List.getElem?_cons_succ, Option.getD_some]
  rw [toNat_ofNat_lt (by omega), toNat_ofNat_lt (by omega), toNat_ofNat_lt (by omega), toNat_ofNat_lt (by omega)]
  exact ⟨rfl, rfl, rfl, rfl⟩
theorem frm_back {f : List UInt8} (h : f.length = 4) : frmB (256 * at8 f 0 + at8 f 1) (at8 f 2) (at8 f 3) = f := by
  match f, h with
  | [a, b, c, d], _ =>
    have ha := a.toNat_lt
    have hb := b.toNat_lt
    simp only [frmB, at8, List.getElem?_cons_zero, List.getElem?_cons_succ, Option.getD_some]
    rw [show (256 * a.toNat + b.toNat) / 256 = a.toNat by omega, show (256 * a.toNat + b.toNat) % 256 = b.toNat by omega]
    simp
theorem notes_count {cs : List Chk} {x y : Chk} (h : cs.filter isFD = [x, y]) : (notesF 0 cs).length + 2 = cs.length := by
  have := notesF_len cs 0
  rw [h] at this
  exact this
theorem notes_ok {cs : List Chk} {x y : Chk} (h : cs.filter isFD = [x, y]) (hok : ∀ c ∈ cs, chkOk c) : notesOk (notesF 0 cs).length (-1) (notesF 0 cs) = true := by
  have hc := notes_count h
  refine notesOk_of (notesF_inc cs 0) fun n hn => ?_
  obtain ⟨h1, h2, h3, h4⟩ := notesF_ge cs 0 n hn
  obtain ⟨h5, h6, _⟩ := hok _ h3
  exact ⟨by omega, by omega, h4, h5, h6⟩
theorem flat_ge {l : List Chk} {c : Chk} (h : c ∈ l) : 3 + c.2.length ≤ (l.flatMap putChk).length := by
  obtain ⟨s, t, rfl⟩ := List.append_of_mem h
  simp only [List.flatMap_append, List.flatMap_cons, List.length_append, putChk_len]
  omega
theorem flat_count (l : List Chk) : 3 * l.length ≤ (l.flatMap putChk).length := by
  induction l with
  | nil => simp
  | cons c l ih => simp only [List.flatMap_cons, List.length_append, putChk_len, List.length_cons]; omega
theorem sndTo_file {b : List UInt8} {v : Val} {r : List UInt8} (h : sndTo b = some (v, r)) : ∃ x, sndFile b = some x ∧ (vfault v).1 = 0 ∧ v = sndVal x.rate x.ch (sndPcm x.smp) ∧ r = sndRes x.coding x.notes := by
  unfold sndTo at h
  split at h
  · cases h
  · rename_i x hx
    unfold sndAns at h
    split at h
    · cases h
    · rename_i hv
      cases h
      exact ⟨x, hx, Decidable.not_not.1 hv, rfl, rfl⟩
theorem even_of {n s c : Nat} (h : n % ((s % 2 + 1) * c) = 0) (hs : s % 2 = 1) : n % 2 = 0 := by
  rw [hs] at h
  obtain ⟨k, hk⟩ := Nat.dvd_of_mod_eq_zero h
  rw [hk, show (1 + 1) * c * k = 2 * (c * k) by rw [Nat.mul_assoc]]
  omega
/-- what a file's residue tells -/
theorem sndTo_rd {b : List UInt8} {v : Val} {r : List UInt8} (hl : b.length ≤ 1000) (h : sndTo b = some (v, r)) : ∃ x, sndFile b = some x ∧ sndRd r = some (x.coding, x.notes) ∧ x.coding < 4 := by
  obtain ⟨x, hx, _, _, rfl⟩ := sndTo_file h
  obtain ⟨cs, f, d, S⟩ := sndFile_some hx
  refine ⟨x, hx, ?_, ?_⟩
  · have hcnt := notes_count S.two
    have hb := congrArg List.length S.bytes
    have hfl := flat_count cs
    simp only [List.length_append, List.length_cons, List.length_nil] at hb
    rw [S.eq]
    refine sndRd_res S.fok.2.2.1 (by show (notesF 0 cs).length ≤ 1000; omega) (notes_ok S.two S.ok) fun n hn => ?_
    have := (S.ok _ (notesF_ge cs 0 n hn).2.2.1).2.2
    omega
  · rw [S.eq]
    exact S.fok.2.2.1
theorem sndVals_pcm {l : List Int} {ch : Nat} (hch : 1 ≤ ch) (h : ∀ x ∈ l, -32768 ≤ x ∧ x ≤ 32767) : sndVals (sndPcm l) 1 ch = l := by
  rw [← sndBytes_pcm l ch]
  exact sndVals_bytes hch fun x hx => ⟨(h x hx).1, (h x hx).2, fun h => by cases h⟩
theorem sndShape_val {rate ch : Nat} {b : List UInt8} (h1 : rate ≤ 65535) (h2 : 1 ≤ ch ∧ ch ≤ 2) (h3 : b.length % (2 * ch) = 0) : sndShape (sndVal rate ch b) = some (rate, ch, b) := by
  unfold sndShape
  show (if ShapeOk (sndVal rate ch b) (numV rate) (numV ch) (bytV b) then _ else _) = _
  rw [if_pos]
  · simp
  · exact ⟨rfl, rfl, rfl, rfl, rfl, by show (0 : Int) ≤ rate ∧ (rate : Int) ≤ 65535; omega, by show (1 : Int) ≤ ch ∧ (ch : Int) ≤ 2; omega, by show b.length % (2 * (ch : Int).toNat) = 0; simpa using h3⟩
/-- a file that is accepted is restored -/
theorem snd_round {b : List UInt8} {v : Val} {r : List UInt8} (hl : b.length ≤ 1000) (h : sndTo b = some (v, r)) : sndMake v r = some b := by
  obtain ⟨x, hx, hrd, hc4⟩ := sndTo_rd hl h
  obtain ⟨x', hx', hv0, hv, hr⟩ := sndTo_file h
  rw [hx] at hx'
  cases hx'
  obtain ⟨cs, f, d, S⟩ := sndFile_some hx
  obtain ⟨g1, g2, g3, g4⟩ := S.fok
  have b0 : at8 f 0 < 256 := UInt8.toNat_lt _
  have b1 : at8 f 1 < 256 := UInt8.toNat_lt _
  have hsm : x.smp = sndVals d (at8 f 3) (at8 f 2) := by rw [S.eq]; rfl
  have hch : x.ch = at8 f 2 := by rw [S.eq]; rfl
  have hco : x.coding = at8 f 3 := by rw [S.eq]; rfl
  have hra : x.rate = 256 * at8 f 0 + at8 f 1 := by rw [S.eq]; rfl
  have hno : x.notes = notesF 0 cs := by rw [S.eq]; rfl
  have hev : isWide (at8 f 3) = true → d.length % 2 = 0 := fun hw => even_of g4 (by simpa [isWide] using hw)
  have hdiv : (sndPcm x.smp).length % (2 * x.ch) = 0 := by
    rw [sndPcm_len, hch, hsm, sndVals, List.length_map, unDiff_len, rawU_len]
    obtain ⟨k, hk⟩ := Nat.dvd_of_mod_eq_zero g4
    rcases Nat.mod_two_eq_zero_or_one (at8 f 3) with h0 | h0
    · rw [h0, Nat.zero_add, Nat.one_mul] at hk
      rw [if_neg (by simp [isWide, h0]), hk, ← Nat.mul_assoc]
      exact Nat.mul_mod_right ..
    · rw [h0] at hk
      rw [if_pos (by simp [isWide, h0]), hk, Nat.mul_assoc, Nat.mul_div_cancel_left _ (by omega), ← Nat.mul_assoc]
      exact Nat.mul_mod_right ..
  have hsh : sndShape v = some (x.rate, x.ch, sndPcm x.smp) := by
    rw [hv]
    exact sndShape_val (by omega) (by omega) hdiv
  have hw : sndWrite x.rate x.ch x.coding (sndVals (sndPcm x.smp) 1 x.ch) x.notes = b := by
    rw [sndVals_pcm (by omega) (by rw [hsm]; exact sndVals_range)]
    unfold sndWrite sndOwn
    rw [hra, hch, hco, hsm, hno, frm_back g1, sndBytes_vals (by omega) hev, notes_count S.two]
    conv => rhs; rw [S.bytes]
    have := weave_notes cs 0
    rw [S.two] at this
    rw [this]
  unfold sndMake
  rw [hsh, hrd]
  simp only
  rw [hw, if_pos ⟨hl, h⟩]
theorem sndMake_some {v : Val} {b o : List UInt8} (h : sndMake v b = some o) : o.length ≤ 1000 ∧ sndTo o = some (v, b) := by
  unfold sndMake at h
  split at h
  · split at h
    · rename_i h1
      cases h
      exact h1
    · cases h
  · cases h
/-- what is written is read again, but for the samples -/
theorem sndWrite_file {rate ch coding : Nat} {l : List Int} {ns : List Note} (h1 : rate ≤ 65535) (h2 : 1 ≤ ch ∧ ch ≤ 2) (h3 : coding < 4) (h4 : notesOk ns.length (-1) ns = true) (h5 : ∀ c ∈ weave (ns.length + 2) 0 ns (sndOwn rate ch coding l), c.2.length ≤ 65535)
    (h6 : (sndBytes l coding ch).length % ((coding % 2 + 1) * ch) = 0) : sndFile (sndWrite rate ch coding l ns) = some ⟨rate, ch, coding, sndVals (sndBytes l coding ch) coding ch, ns⟩ := by
  obtain ⟨p1, p2⟩ := notesOk_all h4
  have ho : ∀ c ∈ sndOwn rate ch coding l, isFD c = true := by intro c hc; simp only [sndOwn, List.mem_cons, List.not_mem_nil, or_false] at hc; rcases hc with rfl | rfl <;> rfl
  have hb := weave_back (ns.length + 2) 0 ns (sndOwn rate ch coding l) rfl p1 (fun m hm => by
    obtain ⟨a1, a2, a3, _⟩ := p2 m hm
    exact ⟨by omega, by omega, a3⟩) ho
  have hm := weave_mem (ns.length + 2) 0 ns (sndOwn rate ch coding l) rfl p1 (fun m hm => by
    obtain ⟨a1, a2, a3, _⟩ := p2 m hm
    exact ⟨by omega, by omega, a3⟩) ho
  have hrng : ∀ c ∈ sndOwn rate ch coding l, 65 ≤ c.1.toNat ∧ c.1.toNat ≤ 90 := by
    intro c hc
    simp only [sndOwn, List.mem_cons, List.not_mem_nil, or_false] at hc
    rcases hc with rfl | rfl
    · show 65 ≤ (70 : UInt8).toNat ∧ (70 : UInt8).toNat ≤ 90
      decide
    · show 65 ≤ (68 : UInt8).toNat ∧ (68 : UInt8).toNat ≤ 90
      decide
  have hok : ∀ c ∈ weave (ns.length + 2) 0 ns (sndOwn rate ch coding l), chkOk c := by
    intro c hc
    refine ⟨?_, ?_, h5 c hc⟩
    all_goals
      rcases hm c hc with h | h
      · obtain ⟨n, hn, rfl⟩ := List.mem_map.1 h
        obtain ⟨_, _, _, q1, q2⟩ := p2 n hn
        assumption
      · obtain ⟨q1, q2⟩ := hrng c h
        assumption
  obtain ⟨f0, f1, f2, f3⟩ := frm_at (rate := rate) (ch := ch) (coding := coding) h1 (by omega) (by omega)
  unfold sndFile sndWrite
  rw [chks_file hok]
  simp only
  unfold sndCs
  rw [parts_two hb.2]
  simp only
  have hf : fOk (frmB rate ch coding) (sndBytes l coding ch) := ⟨rfl, by rw [f2]; exact h2, by rw [f3]; exact h3, by rw [f2, f3]; exact h6⟩
  rw [if_pos hf, hb.1]
  unfold sndOf
  rw [f0, f1, f2, f3]
  congr 2
  omega
theorem enc_sndVal (rate ch : Int) (b : List UInt8) : enc (sndVal rate ch b) = putN 4 ++ (putN 3 ++ (putC sRate ++ (putN 1 ++ putN rate) ++ (putC sChannels ++ (putN 1 ++ putN ch)) ++ (putC sSamples ++ (putN 2 ++ putC b)))) := by
  rw [enc_eq]
  simp only [Val.kind, Val.parts, Val.names]
  rw [if_neg (by decide), if_neg (by decide)]
  simp only [encL, List.zipIdx_cons, List.zipIdx_nil, List.flatMap_cons, List.flatMap_nil, enc_eq (numV _), enc_eq (bytV _), Val.kind, Val.num, Val.bytes]
  simp
theorem vfault_snd {rate ch : Int} {b : List UInt8} (h1 : I64 rate) (h2 : I64 ch) (h3 : b.length ≤ 3000) : vfault (sndVal rate ch b) = (0, 0) := by
  have hc : chk 0 (sndVal rate ch b) 0 = .ok 4 := by
    have e : pre 0 (sndVal rate ch b) = [(sndVal rate ch b, 0), (numV rate, 1), (numV ch, 1), (bytV b, 1)] := by
      rw [pre_eq]
      simp [pre_eq]
    have n1 : ∀ n : Int, nodeCode (numV n) = 0 := fun n => by simp [nodeCode, formBad, Val.kind, Val.num, Val.bytes, Val.names, Val.parts]
    have n2 : nodeCode (bytV b) = 0 := by simp [nodeCode, formBad, Val.kind, Val.num, Val.bytes, Val.names, Val.parts]
    have n3 : nodeCode (sndVal rate ch b) = 0 := by
      unfold nodeCode
      rw [if_neg (by simp [Val.kind]), if_neg (by simp [formBad, Val.kind, Val.num, Val.bytes, Val.names, Val.parts]), if_neg (by simp [Val.parts]), if_neg (by
        show ¬ [sRate, sChannels, sSamples].any (fun s => !nameOk s) = true
        decide), if_neg (by
        show ¬ ¬ [sRate, sChannels, sSamples].Nodup
        decide)]
    unfold chk
    rw [e]
    simp [scan, atCode, n1, n2, n3]
  have hl := congrArg List.length (enc_sndVal rate ch b)
  have a1 := putN_len h1.1 h1.2
  have a2 := putN_len h2.1 h2.2
  have a3 := putC_len (b := b) (by omega)
  have a4 := putC_len (b := sRate) (by decide)
  have a5 := putC_len (b := sChannels) (by decide)
  have a6 := putC_len (b := sSamples) (by decide)
  have a7 := putN_len (n := 4) (by decide) (by decide)
  have a8 := putN_len (n := 3) (by decide) (by decide)
  have a9 := putN_len (n := 1) (by decide) (by decide)
  have a10 := putN_len (n := 2) (by decide) (by decide)
  simp only [List.length_append, List.length_cons, List.length_nil] at hl a4 a5 a6
  unfold vfault
  rw [hc]
  simp only
  rw [if_neg (by omega)]
end Go.Proofs.Ytjfcpnlacodjjaa
namespace Go.Proofs.Ytjfcpnlacodjjaa
open Go Go.RowKit

/-- notes and chunks that fill the places from i to i + n -/
structure WS (n i : Nat) (ns : List Note) (o : List Chk) : Prop where
  len : ns.length + o.length = n
  inc : ns.Pairwise fun a b => a.1 < b.1
  pos : ∀ m ∈ ns, (i : Int) ≤ m.1 ∧ m.1 < ((i + n : Nat) : Int)
theorem inc_room : ∀ (l : List Note) (a b : Int), l.Pairwise (fun a b => a.1 < b.1) → (∀ m ∈ l, a ≤ m.1 ∧ m.1 < b) → (l.length : Int) ≤ b - a ∨ l = []
  | [], _, _, _, _ => .inr rfl
  | m :: r, a, b, hp, hl => by
    obtain ⟨q1, q2⟩ := List.pairwise_cons.1 hp
    have h0 := hl m (by simp)
    rcases inc_room r (m.1 + 1) b q2 fun x hx => ⟨by have := q1 x hx; omega, (hl x (by simp [hx])).2⟩ with h | h
    · left; simp only [List.length_cons]; omega
    · left; subst h; simp only [List.length_cons, List.length_nil]; omega
theorem weave_step {n i : Nat} {ns : List Note} {o : List Chk} (W : WS (n + 1) i ns o) :
    (∃ m r, ns = m :: r ∧ m.1 = (i : Int) ∧ weave (n + 1) i ns o = m.2 :: weave n (i + 1) r o ∧ WS n (i + 1) r o) ∨
    (∃ c r, o = c :: r ∧ (∀ m t, ns = m :: t → m.1 ≠ (i : Int)) ∧ weave (n + 1) i ns o = c :: weave n (i + 1) ns r ∧ WS n (i + 1) ns r) := by
  cases ns with
  | nil =>
    right
    cases o with
    | nil => have := W.len; simp at this
    | cons c r => exact ⟨c, r, rfl, by simp, rfl, ⟨by have := W.len; simpa using this, List.Pairwise.nil, by simp⟩⟩
  | cons m r =>
    obtain ⟨q1, q2⟩ := List.pairwise_cons.1 W.inc
    have hl := W.len
    have hm := W.pos m (by simp)
    by_cases he : m.1 = (i : Int)
    · left
      refine ⟨m, r, rfl, he, by simp only [weave]; rw [if_pos he], ⟨by simp at hl; omega, q2, fun x hx => ?_⟩⟩
      have := q1 x hx
      have := W.pos x (by simp [hx])
      omega
    · right
      have hpos : ∀ x ∈ m :: r, ((i + 1 : Nat) : Int) ≤ x.1 ∧ x.1 < ((i + 1 + n : Nat) : Int) := by
        intro x hx
        have h2 := W.pos x hx
        rcases List.mem_cons.1 hx with rfl | hx
        · omega
        · have := q1 x hx; omega
      cases o with
      | nil =>
        exfalso
        rcases inc_room _ _ _ W.inc hpos with h | h
        · simp only [List.length_cons, List.length_nil] at hl h; omega
        · cases h
      | cons c o =>
        refine ⟨c, o, rfl, fun x t hx => by cases hx; exact he, by simp only [weave]; rw [if_neg he]; rfl, ⟨by simp at hl ⊢; omega, W.inc, hpos⟩⟩
theorem WS.start {ns : List Note} {o : List Chk} (h : notesOk ns.length (-1) ns = true) (ho : o.length = 2) : WS (ns.length + 2) 0 ns o := by
  obtain ⟨p1, p2⟩ := notesOk_all h
  exact ⟨by omega, p1, fun m hm => by obtain ⟨a1, a2, _⟩ := p2 m hm; omega⟩
/-- a valid value's node and parts -/
theorem valid_node {v : Val} (h : (vfault v).1 = 0) : nodeCode v = 0 ∧ ∀ p ∈ v.parts, nodeCode p = 0 := by
  unfold vfault at h
  split at h
  · rename_i e he
    exact absurd h (scan_error he)
  · rename_i m he
    have key : ∀ {d n m : Nat} {v : Val}, chk d v n = .ok m → nodeCode v = 0 := by
      intro d n m v h
      rw [chk_eq] at h
      split at h
      · cases h
      · rename_i h0
        have h0 := Decidable.not_not.1 h0
        unfold atCode at h0
        split at h0
        · cases h0
        · exact h0
    refine ⟨key he, fun p hp => ?_⟩
    obtain ⟨_, _, _, _, _, _, _, h8⟩ := chk_ok he
    obtain ⟨a, b, h9⟩ := chkL_all h8 p hp
    exact key h9
theorem valid_rec {v : Val} (h : (vfault v).1 = 0) (h4 : v.kind = 4) : v.names.length = v.parts.length ∧ v.num = 0 ∧ v.bytes = [] := by
  obtain ⟨_, hf, _⟩ := nodeCode_zero (valid_node h).1
  unfold formBad at hf
  refine ⟨by omega, by omega, List.eq_nil_of_length_eq_zero (by omega)⟩
/-- a valid value of this shape is a plain sound -/
theorem sndShape_some {v : Val} {rate ch : Nat} {b : List UInt8} (hv : (vfault v).1 = 0) (h : sndShape v = some (rate, ch, b)) : v = sndVal rate ch b ∧ rate ≤ 65535 ∧ (1 ≤ ch ∧ ch ≤ 2) ∧ b.length % (2 * ch) = 0 := by
  unfold sndShape at h
  split at h
  · rename_i r c s hp
    split at h
    · rename_i hs
      cases h
      have hr0 := hs.r0
      have hc0 := hs.c0
      obtain ⟨_, k2⟩ := valid_node hv
      have num : ∀ x : Val, nodeCode x = 0 → x.kind = 1 → x = numV x.num := by
        intro x hx h1
        obtain ⟨_, hf, _⟩ := nodeCode_zero hx
        unfold formBad at hf
        exact Val.ext h1 rfl (List.eq_nil_of_length_eq_zero (by omega)) (List.eq_nil_of_length_eq_zero (by omega)) (List.eq_nil_of_length_eq_zero (by omega))
      have byt : ∀ x : Val, nodeCode x = 0 → x.kind = 2 → x = bytV x.bytes := by
        intro x hx h1
        obtain ⟨_, hf, _⟩ := nodeCode_zero hx
        unfold formBad at hf
        exact Val.ext h1 (by show x.num = 0; omega) rfl (List.eq_nil_of_length_eq_zero (by omega)) (List.eq_nil_of_length_eq_zero (by omega))
      have e1 := num r (k2 r (by rw [hp]; simp)) hs.rk
      have e2 := num c (k2 c (by rw [hp]; simp)) hs.ck
      have e3 := byt s (k2 s (by rw [hp]; simp)) hs.sk
      obtain ⟨n1, n2, n3⟩ := valid_rec hv hs.kind
      refine ⟨Val.ext hs.kind n2 n3 hs.names ?_, by omega, by omega, hs.s0⟩
      rw [hp]
      show [r, c, s] = [numV (r.num.toNat : Int), numV (c.num.toNat : Int), bytV s.bytes]
      rw [Int.toNat_of_nonneg (by omega), Int.toNat_of_nonneg (by omega), ← e1, ← e2, ← e3]
    · cases h
  · cases h
end Go.Proofs.Ytjfcpnlacodjjaa
