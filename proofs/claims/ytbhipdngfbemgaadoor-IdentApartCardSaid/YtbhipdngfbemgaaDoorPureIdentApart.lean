/- For any few texts: what Unique makes are names, no two alike, and made once more they stay: the statement over lists of texts that the row of IdentApart asks. No condition. -/
import Derived.Test.YtbhipdngfbemgaaDoorSayIdentApart
import Derived.Test.YtbhipdngfbemgaaDoorPJ3
namespace Go.Proofs.YtbhipdngfbemgaaDoor.PureIdentApart
open Go.RowKit Go.Proofs.YtbhipdngfbemgaaDoor Go.Proofs.YtbhipdngfbemgaaDoor.I Go.Proofs.YtbhipdngfbemgaaDoor.PJ Go.Proofs.YtbhipdngfbemgaaDoor.XUniq Go.Proofs.YtbhipdngfbemgaaDoorW.PrintWords Go.Proofs.YtbhipdngfbemgaaDoorW.PrintLast
theorem awake : ladderbacklaw05_awake.f = some true := by decide +kernel
theorem inner (R : List ByteArray) (hn : R.Nodup) (i : Nat) (hi : i < R.length) (hR : R.length ≤ 40) (kk : Nat) (h : ∀ K, kk ≤ K → ladderbacklaw05_IdentApart.l1 K R R ((i + 1 : Nat) : Int) = some true) :
    ∀ (d j K : Nat), j + d = i → kk + d + 1 ≤ K → ladderbacklaw05_IdentApart.l2 K R R (i : Int) (j : Int) = some true := by
  intro d
  induction d with
  | zero =>
    intro j K hj hK
    obtain ⟨K, rfl⟩ : ∃ m, K = m + 1 := ⟨K - 1, by omega⟩
    simp only [ladderbacklaw05_IdentApart.l2]
    rw [if_neg (by omega), w64s (by omega)]
    exact h K (by omega)
  | succ d ih =>
    intro j K hj hK
    obtain ⟨K, rfl⟩ : ∃ m, K = m + 1 := ⟨K - 1, by omega⟩
    have hne : ¬ R[j]'(by omega) = R[i] := List.pairwise_iff_getElem.1 hn j i (by omega) hi (by omega)
    simp only [ladderbacklaw05_IdentApart.l2]
    rw [if_pos (by omega), if_pos (by omega), if_pos (by omega), if_pos (by omega), if_pos (by omega), rd_at R j (by omega), rd_at R i hi, w64s (by omega)]
    simp only [toL_iff]
    rw [if_neg hne]
    exact ih (j + 1) K (by omega) (by omega)
theorem outer (R : List ByteArray) (hn : R.Nodup) (hr : ∀ n ∈ R, rightB n = true) (hR : R.length ≤ 40) : ∀ (d i K : Nat), i + d = R.length → 100 + 60 * d ≤ K → ladderbacklaw05_IdentApart.l1 K R R (i : Int) = some true := by
  intro d
  induction d with
  | zero =>
    intro i K hi hK
    obtain ⟨K, rfl⟩ : ∃ m, K = m + 1 := ⟨K - 1, by omega⟩
    simp only [ladderbacklaw05_IdentApart.l1]
    rw [if_neg (by omega), awake]
    rfl
  | succ d ih =>
    intro i K hi hK
    obtain ⟨K, rfl⟩ : ∃ m, K = m + 2 := ⟨K - 2, by omega⟩
    have hlt : i < R.length := by omega
    have hri := hr _ (List.getElem_mem hlt)
    have hsz := (right_size hri).2
    simp only [ladderbacklaw05_IdentApart.l1]
    rw [if_pos (by omega), if_pos (by omega), rd_at R i hlt, pRight _ (by omega) (K + 1) (by omega), Option.bind_some, hri, if_pos rfl, if_pos (by omega)]
    have e : (R[i].toList != R[i].toList) = false := by simp
    rw [e]
    simp only [ladderbacklaw05_IdentApart.j3]
    rw [if_neg (by simp)]
    exact inner R hn i hlt hR (100 + 60 * d) (fun K hK => ih (i + 1) K (by omega) hK) i 0 K (by omega) (by omega)
theorem IdentApart : SayIdentApart.Pure := by
  intro l _
  refine ⟨7000, ?_⟩
  unfold ladderbacklaw05_IdentApart.f
  by_cases hl : l.length ≤ 40
  · rw [if_neg (by omega)]
    exact chk_loop l (fun k i => ladderbacklaw05_IdentApart.l0 k l i) 6000 (fun k i h => by
      simp only [ladderbacklaw05_IdentApart.l0]
      rw [if_pos (by omega), if_pos (by omega), rd_at l i h, w64s (by omega), awake]
      rfl) (fun hs k hk => by
      obtain ⟨R, h1, h2, h3, h4⟩ := uniq_all l hl
      have hc : R.map cleanB = R := by
        conv => rhs; rw [← List.map_id R]
        exact List.map_congr_left (fun y hy => cleanB_same (h4 y hy))
      have h5 : uniqGo (R.map cleanB) (R.map cleanB) [] = some R := by rw [hc]; exact uniq_same R R [] (by simpa using h3)
      have hRs : ∀ y ∈ R, y.size ≤ 100 := fun y hy => by have := (right_size (h4 y hy)).2; omega
      obtain ⟨k, rfl⟩ : ∃ m, k = m + 1 := ⟨k - 1, by omega⟩
      simp only [ladderbacklaw05_IdentApart.l0]
      rw [if_neg (by omega), pUnique l hl hs R h1, Option.bind_some, pUnique R (by omega) hRs R h5, Option.bind_some, if_pos (by omega)]
      have e : ((R.length : Int) != (l.length : Int)) = false := by rw [h2]; simp
      rw [e]
      simp only [ladderbacklaw05_IdentApart.j1]
      rw [if_neg (by simp)]
      exact outer R h3 h4 (by omega) R.length 0 k (by omega) (by omega)) l.length 0 7000 (by omega) (by simp) (by omega)
  · rw [if_pos (by omega), awake]
    rfl
end Go.Proofs.YtbhipdngfbemgaaDoor.PureIdentApart
