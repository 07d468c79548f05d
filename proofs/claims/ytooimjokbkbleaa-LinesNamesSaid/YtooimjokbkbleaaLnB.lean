/- The walks of small functions on words: which bytes may stand in a word, which words may be. -/
import Derived.Test.YtooimjokbkbleaaMemA
import Derived.Test.YtooimjokbkbleaaLnA
import Derived.Lib.Walk
import Derived.Lib.Strings
namespace Go.Proofs.Ytooimjokbkbleaa
open Go.RowKit TV
set_option linter.unusedVariables false

theorem plain_calls (c : UInt8) (w : World) :
    Calls Try.prog 24 #[.int .u8 (c.toNat : Int)] w fun e w' => e = .returned (.bool (plainB c)) ∧ w = w' := by
  have hb : c.toNat < 256 := c.toNat_lt
  have hp : Hid (plainB c = (decide (32 < (c.toNat : Int)) && decide ((c.toNat : Int) ≤ 126) && !((c.toNat : Int) == 35))) := by
    show _ = _
    unfold plainB
    have : (c == 35) = ((c.toNat : Int) == 35) := by
      rw [Bool.eq_iff_iff]; simp only [beq_iff_eq]
      constructor
      · rintro rfl; rfl
      · intro h; apply UInt8.toNat_inj.1; have : c.toNat = 35 := by omega
        rw [this]; rfl
    rw [this]; congr 1; congr 1 <;> simp <;> omega
  obtain ⟨n, hn⟩ : ∃ n : Nat, n = c.toNat := ⟨_, rfl⟩
  rw [← hn] at hp hb ⊢
  have HN := Lib.hid hn
  clear hn
  by_cases h1 : 32 < n
  · by_cases h2 : n ≤ 126
    · by_cases h3 : n = 35
      · subst h3
        go_enter Try.func24, Try.ntmps24
        go_wp2
        go_ret
        exact ⟨by rw [hp.out]; rfl, rfl⟩
      · have h3' : ((n : Int) == 35) = false := by rw [beq_eq_false_iff_ne]; omega
        have h3'' : ((n : Int) != 35) = true := by rw [bne_iff_ne]; omega
        go_enter Try.func24, Try.ntmps24
        go_wp2
        go_ret
        exact ⟨by rw [hp.out, h3', decide_eq_true (by omega), decide_eq_true (by omega)]; rfl, rfl⟩
    · go_enter Try.func24, Try.ntmps24
      go_wp2
      go_ret
      exact ⟨by rw [hp.out, decide_eq_false (p := (n : Int) ≤ 126) (by omega)]; simp, rfl⟩
  · go_enter Try.func24, Try.ntmps24
    go_wp2
    go_ret
    exact ⟨by rw [hp.out, decide_eq_false (p := 32 < (n : Int)) (by omega)]; simp, rfl⟩

theorem take_snoc (s : ByteArray) (k : Nat) (h : k < s.size) : s.data.toList.take (k + 1) = s.data.toList.take k ++ [s[k]] := by
  rw [List.take_succ_eq_append_getElem (by simpa using h)]; rfl
theorem drop_cons (s : ByteArray) (k : Nat) (h : k < s.size) : s.data.toList.drop k = s[k] :: s.data.toList.drop (k + 1) := by
  rw [List.drop_eq_getElem_cons (by simpa using h)]; rfl

theorem ret_bool {a b : Bool} (h : a = b) : Ending.returned (.bool a) = .returned (.bool b) := by rw [h]

theorem good_calls (s : ByteArray) (w : World) (hs : s.size ≤ maxLen) :
    Calls Try.prog 16 #[.string s] w fun e w' => e = .returned (.bool (goodB s.data.toList)) ∧ w = w' := by
  unfold maxLen at hs
  have hsz : Hid (s.data.toList.length = s.size) := by show _ = _; simp
  go_enter Try.func16, Try.ntmps16
  go_wp2
  go_loop [6] (fun i => ∃ k : Nat, k ≤ s.size ∧ i = .int .i64 k ∧ Hid ((s.data.toList.take k).all plainB = true)) (fun i => s.size - (intOf i).toNat)
  case atStart => exact ⟨0, Nat.zero_le _, rfl, by show _ = _; rfl⟩
  case round =>
    obtain ⟨k, hk, rfl, hall⟩ := hrel
    by_cases hlt : k < s.size
    · have hts := Lib.hid (take_snoc s k hlt)
      have hdc := Lib.hid (drop_cons s k hlt)
      by_cases hp : plainB s[k] = true
      · have hp' := hp
        go_wp2_with (go_at_call 24; refine (plain_calls _ _).mono ?_; rintro e w' ⟨rfl, rfl⟩)
        go_round
        case rel => exact ⟨k + 1, by omega, by go_num, by show _ = _; rw [hts.out, List.all_append, hall.out]; simp [hp']⟩
        case measure => simp [intOf]; omega
      · have hp0 : plainB s[k] = false := by simpa using hp
        clear hp
        have hg : Hid (goodB s.data.toList = false) := by
          show _ = _
          have : s.data.toList.all plainB = false := by
            rw [← List.take_append_drop k s.data.toList, List.all_append, hdc.out]; simp [hp0]
          unfold goodB; rw [this]; rfl
        go_wp2_with (go_at_call 24; refine (plain_calls _ _).mono ?_; rintro e w' ⟨rfl, rfl⟩)
        go_ret
        exact ⟨ret_bool hg.out.symm, rfl⟩
    · have ha : Hid (s.data.toList.all plainB = true) := by
        show _ = _
        have := hall.out; rwa [List.take_of_length_le (by rw [hsz.out]; omega)] at this
      by_cases h0 : s.size = 0
      · have he : s = ByteArray.empty := by simpa using h0
        subst he
        go_wp2
        go_ret
        exact ⟨rfl, rfl⟩
      · have hg : Hid (goodB s.data.toList = decide ((s.size : Int) ≤ 400)) := by
          show _ = _
          unfold goodB; rw [ha.out, hsz.out]
          have : s.data.toList.isEmpty = false := by
            cases h : s.data.toList with
            | nil => rw [← hsz.out, h] at h0; simp at h0
            | cons => rfl
          rw [this]; simp; omega
        have he : ¬ s.toList = [] := fun h => h0 (by rw [← hsz.out, ← Lib.toList_data, h]; rfl)
        have he' : s.toList.isEmpty = false := by simpa using he
        go_wp2
        go_ret
        exact ⟨ret_bool hg.out.symm, rfl⟩

end Go.Proofs.Ytooimjokbkbleaa
