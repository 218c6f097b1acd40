/-
  Files of tables, plain: what is written between separators is read as the same cells.
-/
import Derived.Test.YtkfcdjomkcmkeaaGreatDoorTblR
namespace Go.Proofs.YtkfcdjomkcmkeaaGreatDoor
open Go Go.RowKit

theorem enc_two (p q : Val) : enc (.mk 3 0 [] [] [p, q]) = putN 3 ++ (putN 2 ++ (enc p ++ enc q)) := by
  rw [enc_eq]
  simp only [Val.kind, Val.parts, Val.names, List.map_cons, List.map_nil]
  rw [if_neg (by decide), if_neg (by decide)]
  congr 1
  congr 1
  show ([] ++ enc p) ++ (([] ++ enc q) ++ []) = _
  simp
theorem enc_one (p : Val) : enc (.mk 3 0 [] [] [p]) = putN 3 ++ (putN 1 ++ enc p) := by
  rw [enc_eq]
  simp only [Val.kind, Val.parts, Val.names, List.map_cons, List.map_nil]
  rw [if_neg (by decide), if_neg (by decide)]
  congr 1
  congr 1
  show ([] ++ enc p) ++ [] = _
  simp
theorem chk_three (a b c : List UInt8) : chk 0 (tblVal [[a, b], [c]]) 0 = .ok 6 := by
  have e : pre 0 (tblVal [[a, b], [c]]) = [(tblVal [[a, b], [c]], 0), (rowV [a, b], 1), (cellV a, 2), (cellV b, 2), (rowV [c], 1), (cellV c, 2)] := by
    rw [pre_eq]
    simp [pre_eq]
  have n2 : ∀ d, nodeCode (cellV d) = 0 := fun d => by simp [nodeCode, formBad, Val.kind, Val.num, Val.bytes, Val.names, Val.parts]
  have n3 : nodeCode (rowV [a, b]) = 0 := by simp [nodeCode, formBad, Val.kind, Val.num, Val.bytes, Val.names, Val.parts]
  have n4 : nodeCode (rowV [c]) = 0 := by simp [nodeCode, formBad, Val.kind, Val.num, Val.bytes, Val.names, Val.parts]
  have n5 : nodeCode (tblVal [[a, b], [c]]) = 0 := by simp [nodeCode, formBad, Val.kind, Val.num, Val.bytes, Val.names, Val.parts]
  unfold chk
  rw [e]
  simp [scan, atCode, n2, n3, n4, n5]
theorem vfault_three {a b c : List UInt8} (hl : a.length + b.length + c.length ≤ 300) : (vfault (tblVal [[a, b], [c]])).1 = 0 := by
  have hs : enc (tblVal [[a, b], [c]]) = putN 3 ++ (putN 2 ++ ((putN 3 ++ (putN 2 ++ ((putN 2 ++ putC a) ++ (putN 2 ++ putC b)))) ++ (putN 3 ++ (putN 1 ++ (putN 2 ++ putC c))))) := by
    show enc (.mk 3 0 [] [] [rowV [a, b], rowV [c]]) = _
    rw [enc_two]
    show _ ++ (_ ++ (enc (.mk 3 0 [] [] [cellV a, cellV b]) ++ enc (.mk 3 0 [] [] [cellV c]))) = _
    rw [enc_two, enc_one, enc_byt, enc_byt, enc_byt]
  have hl2 := congrArg List.length hs
  have a3 := putC_len (b := a) (by omega)
  have a4 := putC_len (b := b) (by omega)
  have a5 := putC_len (b := c) (by omega)
  have a8 := putN_len (n := 3) (by decide) (by decide)
  have a9 := putN_len (n := 1) (by decide) (by decide)
  have a10 := putN_len (n := 2) (by decide) (by decide)
  simp only [List.length_append] at hl2
  unfold vfault
  rw [chk_three]
  simp only
  rw [if_neg (by omega)]
theorem esc_len : ∀ (x : List UInt8), (esc x).length ≤ 2 * x.length
  | [] => by simp [esc]
  | c :: x => by
    have := esc_len x
    unfold esc
    split <;> simp <;> omega
theorem outC_le (c : Cel) : (outC c).length ≤ 2 * c.1.length + 2 := by
  have := esc_len c.1
  unfold outC
  split <;> simp <;> omega
theorem tbl_kept {a b c : List UInt8} (hl : a.length + b.length + c.length ≤ 300) : ∃ o, tblMake (tblVal [[a, b], [c]]) [] = some o ∧ tblTo o = some (tblVal [[a, b], [c]], []) ∧ o.length ≤ 1000 := by
  obtain ⟨A, hA⟩ : ∃ A : Cel, A = (a, tNeeds 44 a) := ⟨_, rfl⟩
  obtain ⟨B, hB⟩ : ∃ B : Cel, B = (b, tNeeds 44 b) := ⟨_, rfl⟩
  obtain ⟨C, hC⟩ : ∃ C : Cel, C = (c, tNeeds 44 c) := ⟨_, rfl⟩
  have okn : ∀ x : List UInt8, okC 44 (x, tNeeds 44 x) := fun x => by
    cases h : tNeeds 44 x
    · exact .inr h
    · exact .inl rfl
  have okA : okC 44 A := by rw [hA]; exact okn a
  have okB : okC 44 B := by rw [hB]; exact okn b
  have okCc : okC 44 C := by rw [hC]; exact okn c
  have lA := outC_le A
  have lB := outC_le B
  have lC := outC_le C
  have hA1 : A.1 = a := by rw [hA]
  have hB1 : B.1 = b := by rw [hB]
  have hC1 : C.1 = c := by rw [hC]
  rw [hA1] at lA
  rw [hB1] at lB
  rw [hC1] at lC
  have hout : tblOut 0 [] [[a, b], [c]] = fileB 44 [10] false [[A, B], [C]] := by
    rw [hA, hB, hC]
    show fileB 44 [10] false [[wrC 44 [] 0 a, wrC 44 [] 1 b], [wrC 44 [] 2 c]] = _
    simp [wrC]
  obtain ⟨o, ho⟩ : ∃ o, o = fileB 44 [10] false [[A, B], [C]] := ⟨_, rfl⟩
  have he : o = outC A ++ 44 :: (outC B ++ 10 :: (outC C ++ [10])) := by
    rw [ho]
    simp [fileB, outR]
  have hlen : o.length ≤ 1000 := by
    rw [he]
    simp only [List.length_append, List.length_cons, List.length_nil]
    omega
  have b44 : ∀ r, behind 44 (44 :: r) := fun r => .inr ⟨44, r, rfl, by decide, by decide⟩
  have b10 : ∀ r, behind 44 (10 :: r) := fun r => .inr ⟨10, r, rfl, by decide, by decide⟩
  have hrd : rdFile 44 [10] o = some ([[A, B], [C]], false) := by
    unfold rdFile rdT
    rw [if_neg (by rw [he]; simp), he, rdG_sep (by simp) (rdCell_out okA (b44 _)) (by simp), rdG_line (by simp) (rdCell_out okB (b10 _)) rfl]
    show rdT 44 [10] _ (outC C ++ [10]) = _
    unfold rdT
    rw [if_neg (by simp), rdG_line (by simp) (rdCell_out okCc (b10 [])) rfl]
    rfl
  have hone : tblOne 0 o = some ([[A, B], [C]], false) := by
    unfold tblOne
    show (match rdFile 44 [10] o with | none => none | some (R, q) => if suitT (crT 0) R q = true then some (R, q) else none) = _
    rw [hrd]
    rfl
  have hto : tblTo o = some (tblVal [[a, b], [c]], []) := by
    have hf : tblFind o = some (0, [[A, B], [C]], false) := by
      unfold tblFind tblFrom
      show (match tblOne 0 o with | some x => some (0, x) | none => _) = _
      rw [hone]
    unfold tblTo
    rw [hf]
    show tblAns 0 _ false = _
    unfold tblAns
    have e1 : tblOf [[A, B], [C]] = [[a, b], [c]] := by rw [hA, hB, hC]; rfl
    rw [e1, if_pos (vfault_three hl)]
    have e2 : qn (sepB (0 / 2)) 0 [[A, B], [C]].flatten = [] := by
      have nq : ∀ x : List UInt8, (tNeeds 44 x && !tNeeds 44 x) = false := fun x => by cases tNeeds 44 x <;> rfl
      rw [hA, hB, hC]
      show qn 44 0 [(a, tNeeds 44 a), (b, tNeeds 44 b), (c, tNeeds 44 c)] = []
      simp [qn, nq]
    rw [e2]
    rfl
  refine ⟨o, ?_, hto, hlen⟩
  have hsh : tblShape (tblVal [[a, b], [c]]) = some [[a, b], [c]] := tblShape_val (by simp) (by simp)
  have := tblMake_yes hsh tblRd_nil (by rw [hout, ← ho]; exact hlen) (by rw [hout, ← ho]; exact hto)
  rw [hout, ← ho] at this
  exact this
end Go.Proofs.YtkfcdjomkcmkeaaGreatDoor
