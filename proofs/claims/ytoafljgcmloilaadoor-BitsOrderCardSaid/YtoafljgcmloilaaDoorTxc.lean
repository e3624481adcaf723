/- The text of a number: cut at its point. -/
import Derived.Test.YtoafljgcmloilaaDoorTxw
import Derived.Lib.IndexMore
import Derived.Lib.IndexLaws
namespace Go.Proofs.YtoafljgcmloilaaDoor
namespace Txt
open Dec
theorem strB_fold : ∀ (L : List Nat) (r : ByteArray), ((L.map fun x : Nat => (x : Int)).foldl (fun r n => r.push (UInt8.ofNat n.toNat)) r).data.toList = r.data.toList ++ L.map UInt8.ofNat
  | [], r => by simp
  | x :: L, r => by
    rw [List.map_cons, List.foldl_cons, strB_fold L]
    simp [ByteArray.push]
theorem strB_data (L : List Nat) : (strB L).data.toList = L.map UInt8.ofNat := by
  unfold strB; rw [strB_fold]; rfl
theorem strB_size (L : List Nat) : (strB L).size = L.length := by
  have h := congrArg List.length (strB_data L)
  simpa using h
theorem idx_ok (B : List UInt8) : ∀ A : List UInt8, 0 ≤ Lib.index (A ++ 46 :: B) [46] ∧ Lib.index (A ++ 46 :: B) [46] ≤ A.length
  | [] => by
    have e : Lib.index (46 :: B) [46] = 0 := by unfold Lib.index; rw [if_pos (by rfl)]
    show 0 ≤ Lib.index (46 :: B) [46] ∧ Lib.index (46 :: B) [46] ≤ _
    rw [e]; simp
  | a :: A => by
    have ih := idx_ok B A
    show 0 ≤ Lib.index (a :: (A ++ 46 :: B)) [46] ∧ Lib.index (a :: (A ++ 46 :: B)) [46] ≤ _
    unfold Lib.index
    split
    · simp; omega
    · rw [if_neg (by simp; omega)]
      simp; omega
theorem cut_ok (A B : List UInt8) : ∃ i, i ≤ A.length ∧ Lib.cut (A ++ 46 :: B) [46] = ((A ++ 46 :: B).take i, (A ++ 46 :: B).drop (i + 1), true) := by
  have h := idx_ok B A
  refine ⟨(Lib.index (A ++ 46 :: B) [46]).toNat, by omega, ?_⟩
  unfold Lib.cut
  rw [if_pos h.1]; rfl
/-- What is ahead of the point, what is behind it. -/
def wh (L : List Nat) : ByteArray := ⟨(Lib.cut (strB L).data.toList [46]).1.toArray⟩
def pt (L : List Nat) : ByteArray := ⟨(Lib.cut (strB L).data.toList [46]).2.1.toArray⟩
theorem sizes {L A B : List Nat} (h : L = A ++ 46 :: B) (hB : 12 ≤ B.length) (hL : L.length ≤ 100000) : (Lib.cut (strB L).data.toList [46]).2.2 = true ∧ (wh L).size ≤ 100000 ∧ 12 ≤ (pt L).size ∧ (pt L).size ≤ 100000 := by
  subst h
  have e : (strB (A ++ 46 :: B)).data.toList = A.map UInt8.ofNat ++ 46 :: B.map UInt8.ofNat := by rw [strB_data]; simp
  obtain ⟨i, hi, hc⟩ := cut_ok (A.map UInt8.ofNat) (B.map UInt8.ofNat)
  rw [List.length_map] at hi
  unfold wh pt
  rw [e, hc]
  simp at hL
  refine ⟨rfl, ?_, ?_, ?_⟩
  · show ((A.map UInt8.ofNat ++ 46 :: B.map UInt8.ofNat).take i).toArray.size ≤ _
    simp; omega
  · show 12 ≤ ((A.map UInt8.ofNat ++ 46 :: B.map UInt8.ofNat).drop (i + 1)).toArray.size
    simp; omega
  · show ((A.map UInt8.ofNat ++ 46 :: B.map UInt8.ofNat).drop (i + 1)).toArray.size ≤ _
    simp; omega
theorem fmt_split {d : Nat → Nat} {n : Nat} {p : Int} (hn : n ≤ 100) (hp1 : -100 ≤ p) (hp2 : p ≤ 100) : ∃ A B, fmtL d n p = A ++ 46 :: B ∧ 12 ≤ B.length ∧ (fmtL d n p).length ≤ 100000 := by
  unfold fmtL
  split
  · split
    · have hR : (List.replicate 1100 48).length = 1100 := List.length_replicate
      unfold lfm_ge
      generalize List.replicate 1100 48 = R at *
      refine ⟨dgl d 0 n ++ List.replicate (p.toNat - n) 48, R, by simp, by omega, ?_⟩
      simp [dgl_len]; omega
    · refine ⟨dgl d 0 p.toNat, dgl d p.toNat (n - p.toNat) ++ List.replicate (1100 - (n - p.toNat)) 48, by unfold lfm_mid; simp, by simp [dgl_len]; omega, ?_⟩
      unfold lfm_mid; simp [dgl_len]; omega
  · refine ⟨[48], List.replicate (-p).toNat 48 ++ dgl d 0 n ++ List.replicate (1100 - (-p).toNat - n) 48, by unfold fle; simp, by simp [dgl_len]; omega, ?_⟩
    unfold fle; simp [dgl_len]; omega
theorem ftl_split {v k : Nat} {L : List Nat} (h : FtL v k L) : ∃ A B, L = A ++ 46 :: B ∧ 12 ≤ B.length ∧ L.length ≤ 100000 := by
  obtain ⟨N, r, W, -, -, ⟨h1, h2, h3⟩, rfl⟩ := h
  have t := trimN_le (quo k (dgd v N N) (trimN (dgd v N N) N) r W) W
  refine fmt_split (by omega) ?_ ?_
  · unfold pnt; split
    · decide
    · split <;> omega
  · unfold pnt; split
    · decide
    · split <;> omega
end Txt
end Go.Proofs.YtoafljgcmloilaaDoor
