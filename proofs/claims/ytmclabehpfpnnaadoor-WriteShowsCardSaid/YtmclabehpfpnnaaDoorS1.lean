/- Texts. -/
import Derived.Test.YtmclabehpfpnnaaDoorM7
set_option linter.unusedSimpArgs false
set_option linter.unusedVariables false
namespace Go.Proofs.Pv

theorem ba_ext {a b : ByteArray} (h : a.data = b.data) : a = b := by
  cases a; cases b; simp at h; rw [h]
theorem bstr_append (l m : List Nat) : bstr l ++ bstr m = bstr (l ++ m) := ba_ext (by rw [ByteArray.data_append]; simp [bstr])
theorem sb_extract (a : ByteArray) (i j : Nat) : sb (a.extract i j) = ((sb a).take j).drop i := by
  simp [sb, ByteArray.data_extract, Array.toList_extract, List.map_take, List.map_drop, List.drop_take]
theorem bstr_extract (l : List Nat) (i j : Nat) : (bstr l).extract i j = bstr ((l.take j).drop i) := ba_ext (by
  rw [ByteArray.data_extract]
  simp [bstr, List.map_take, List.map_drop, List.drop_take])
theorem bstr_size (l : List Nat) : (bstr l).size = l.length := by simp [bstr, ByteArray.size]
theorem bstr_nil : bstr [] = ⟨#[]⟩ := rfl
theorem sb_inj {a b : ByteArray} (h : sb a = sb b) : a = b := by rw [← bstr_sb a, ← bstr_sb b, h]
theorem sb_lt' (s : ByteArray) : ∀ n ∈ sb s, n < 256 := by
  intro n hn
  obtain ⟨b, _, rfl⟩ := List.mem_map.1 hn
  exact UInt8.toNat_lt _
theorem str_eq (a b : ByteArray) : (a.toList == b.toList) = decide (sb a = sb b) := by
  rw [ByteArray.toList_eq, ByteArray.toList_eq]
  by_cases h : a = b
  · subst h; simp
  · have h2 : ¬ sb a = sb b := fun h2 => h (sb_inj h2)
    rw [decide_eq_false h2]
    have h3 : ¬ a.data.toList = b.data.toList := fun h3 => h (ba_ext (Array.toList_inj.1 h3))
    simpa using h3
theorem str_eq2 (a b : ByteArray) : (a.toList == b.toList) = decide (a = b) := by
  rw [str_eq]
  exact decide_eq_decide.2 ⟨sb_inj, fun h => by rw [h]⟩
theorem dch_lt {d : Nat} (h : d < 36) : dch d < 256 := by unfold dch; split <;> omega
theorem txt_lt {b n : Nat} (hb : 2 ≤ b) (hb2 : b ≤ 36) : ∀ c ∈ txt b n, c < 256 := by
  unfold txt
  split
  · simp
  · intro c hc
    obtain ⟨d, hd, rfl⟩ := List.mem_map.1 (List.mem_reverse.1 hc)
    exact dch_lt (by have := digs_lt hb n d hd; omega)
theorem dig_all : (List.range 36).all (fun d => decide (((⟨#[48, 49, 50, 51, 52, 53, 54, 55, 56, 57, 97, 98, 99, 100, 101, 102, 103, 104, 105, 106, 107, 108, 109, 110, 111, 112, 113, 114, 115, 116, 117, 118, 119, 120, 121, 122]⟩ : ByteArray).extract d (d + 1)).data = (bstr [dch d]).data)) = true := by decide +kernel
theorem dig_cut {d : Nat} (h : d < 36) : (⟨#[48, 49, 50, 51, 52, 53, 54, 55, 56, 57, 97, 98, 99, 100, 101, 102, 103, 104, 105, 106, 107, 108, 109, 110, 111, 112, 113, 114, 115, 116, 117, 118, 119, 120, 121, 122]⟩ : ByteArray).extract d (d + 1) = bstr [dch d] :=
  ba_ext (by simpa using List.all_eq_true.1 dig_all d (List.mem_range.2 h))
end Go.Proofs.Pv
