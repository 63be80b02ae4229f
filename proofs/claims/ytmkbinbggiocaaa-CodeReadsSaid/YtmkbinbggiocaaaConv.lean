/- Bytes as a string. -/
import Derived.Test.YtmkbinbggiocaaaCode5
import Derived.Laws.BytesArg
import Derived.Laws.Concat
set_option linter.unusedVariables false
set_option linter.unusedSimpArgs false
namespace Go.Proofs.Ytmkbinbggiocaaa
open Go.RowKit
namespace Code
theorem strOfNums_nil : strOfNums [] = ByteArray.empty := rfl
theorem conv_nil (w : World) : (convert 45 9 (.slice none 0 0)).run Try.prog w = .ok (.string ByteArray.empty) w :=
  run_convert_bytes_nil (P := Try.prog) w 45 5 Try.underlying45 Try.underlying5 0 0 9 Try.underlying9
theorem conv_zero (w : World) (ad : Addr) (c : Nat) : (convert 45 9 (.slice (some ad) 0 c)).run Try.prog w = .ok (.string ByteArray.empty) w := by
  have h := run_convert_bytes_string (P := Try.prog) w 45 9 5 (some ad) 0 c Try.underlying45 Try.underlying5 Try.underlying9
  rw [run_bytesToString w ad 0 c [] (by simp [go_sem])] at h
  exact h
theorem conv_rd {w : World} {v : Value} {bs : List Int} (h : Rd w 1 v bs.length (u8s bs)) : (convert 45 9 v).run Try.prog w = .ok (.string (strOfNums bs)) w := by
  obtain ⟨a, c, rfl⟩ := h.val
  by_cases hn : bs = []
  · subst hn
    rcases h.2 with ⟨he, _⟩ | ⟨ad, c', he, _⟩
    · simp only [Value.slice.injEq] at he
      obtain ⟨rfl, _, rfl⟩ := he
      have k := conv_nil w
      rw [← strOfNums_nil] at k
      exact k
    · simp only [Value.slice.injEq] at he
      obtain ⟨rfl, _, rfl⟩ := he
      have k := conv_zero w ad c
      rw [← strOfNums_nil] at k
      exact k
  · have hp : 0 < bs.length := List.length_pos_iff.2 hn
    obtain ⟨g, o, rfl, _, _, h3⟩ := h.at (by rw [u8s_length]; exact hp)
    refine run_convert_bytes_arg w _ _ Try.underlying45 Try.underlying5 g o _ _ bs rfl (fun i hi => ?_) _ Try.underlying9
    rw [h3 i (.int .u8 bs[i]) (u8s_get (List.getElem?_eq_getElem hi))]
    simp [List.getD, List.getElem?_eq_getElem hi]
theorem str_add (a b : List Int) : strOfNums a ++ strOfNums b = strOfNums (a ++ b) := by
  apply ByteArray.ext
  simp [strOfNums, ByteArray.data_append]
end Code
end Go.Proofs.Ytmkbinbggiocaaa
