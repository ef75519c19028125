/- depot.Name and the reference's Name tell nameOk. -/
import Derived.Test.YtannijeiecmjpaaGreatDoorRows
import Derived.Test.YtannijeiecmjpaaGreatDoorDepM
import Derived.Test.YtannijeiecmjpaaGreatDoorShelfD
namespace Go.Proofs.YtannijeiecmjpaaGreatDoor
open Go.RowKit Go.Shelf

abbrev nameBytes : ByteArray := ⟨#[97, 98, 99, 100, 101, 102, 103, 104, 105, 106, 107, 108, 109, 110, 111, 112, 113, 114, 115, 116, 117, 118, 119, 120, 121, 122, 48, 49, 50, 51, 52, 53, 54, 55, 56, 57]⟩
theorem nameTrim_any (s : ByteArray) (w : World) (hs : s.size ≤ maxLen) :
    Calls Tryz.prog 23 #[.string s, .string nameBytes] w fun e w' => e = .returned (.string ⟨(Lib.trimS s.data.toList nameSet).toArray⟩) ∧ Below w.heap.size w w' :=
  Any.strings_Trim_laid trimL (by kernel_rfl) s nameBytes w (by unfold maxLen at hs; omega) (by decide) (ascii_of_all (by decide))
theorem empty_iff (s : ByteArray) : s = ⟨#[]⟩ ↔ s.data.toList = [] := by
  constructor
  · intro h; rw [h]
  · intro h
    obtain ⟨d⟩ := s
    congr 1
    exact Array.toList_eq_nil_iff.1 h
theorem mk_empty (l : List UInt8) : ((⟨l.toArray⟩ : ByteArray) = ⟨#[]⟩) ↔ l = [] := by
  rw [empty_iff]
theorem nil_iff (s : ByteArray) : s.toList = [] ↔ s.data.toList = [] := by rw [ByteArray.toList_eq]
theorem size_len (s : ByteArray) : s.size = s.data.toList.length := by rw [Array.length_toList]; rfl
set_option maxHeartbeats 4000000 in
theorem depName_any (s : ByteArray) (w : World) (hs : s.size ≤ maxLen) :
    Calls Tryz.prog 11 #[.string s] w fun e w' => e = .returned (.bool (nameOk s.data.toList)) ∧ Below w.heap.size w w' := by
  have HT := Lib.hid (nameTrim_any s w hs)
  by_cases h0 : s.toList = []
  · have HV : Hid (nameOk s.data.toList = false) := Lib.hid (by rw [(nil_iff s).1 h0]; rfl)
    go_enter Tryz.func11, Tryz.ntmps11
    go_wp2
    go_ret
    exact ⟨by rw [HV.out]; rfl, Below.refl _ _⟩
  have h1 : s.data.toList ≠ [] := fun e => h0 ((nil_iff s).2 e)
  by_cases h12 : (s.size : Int) ≤ 12
  case neg =>
    have HV : Hid (nameOk s.data.toList = false) := Lib.hid (by
      unfold nameOk
      rw [decide_eq_false (show ¬ s.data.toList.length ≤ 12 by rw [← size_len]; omega)]
      simp)
    clear h1
    go_enter Tryz.func11, Tryz.ntmps11
    go_wp2
    go_ret
    exact ⟨by rw [HV.out]; rfl, Below.refl _ _⟩
  have HV : Hid (nameOk s.data.toList = decide (Lib.trimS s.data.toList nameSet = [])) := Lib.hid (by
    unfold nameOk
    rw [decide_eq_true (show s.data.toList.length ≤ 12 by rw [← size_len]; omega), decide_eq_true h1, name_trim]
    rfl)
  clear h1
  generalize Lib.trimS s.data.toList nameSet = t at *
  by_cases ht : t = []
  · have HD : Hid (decide (t = []) = true) := Lib.hid (decide_eq_true ht)
    have he : s.toList.isEmpty = false := by cases hs2 : s.toList with
      | nil => exact absurd hs2 h0
      | cons x xs => rfl
    go_enter Tryz.func11, Tryz.ntmps11
    go_wp2_with (go_at_call 23; refine HT.out.mono ?_; rintro e w1 ⟨rfl, hb⟩)
    go_ret
    exact ⟨by rw [HV.out, HD.out]; rfl, hb⟩
  · have HD : Hid (decide (t = []) = false) := Lib.hid (decide_eq_false ht)
    have he : s.toList.isEmpty = false := by cases hs2 : s.toList with
      | nil => exact absurd hs2 h0
      | cons x xs => rfl
    have hte : t.isEmpty = false := by cases hs2 : t with
      | nil => exact absurd hs2 ht
      | cons x xs => rfl
    go_enter Tryz.func11, Tryz.ntmps11
    go_wp2_with (go_at_call 23; refine HT.out.mono ?_; rintro e w1 ⟨rfl, hb⟩)
    go_ret
    exact ⟨by rw [HV.out, HD.out]; rfl, hb⟩
/-- A digit. -/
theorem digit_any (b : UInt8) (w : World) : Calls Tryz.prog 24 #[.int .u8 (b.toNat : Int)] w fun e w' => e = .returned (.bool (decide (48 ≤ b.toNat) && decide (b.toNat ≤ 57))) ∧ w' = w := by
  have hb : b.toNat < 256 := b.toNat_lt
  generalize b.toNat = n at *
  by_cases h1 : 48 ≤ n
  · have d1 : decide ((48 : Int) ≤ (n : Int)) = true := decide_eq_true (by omega)
    have d2 : decide (48 ≤ n) = true := decide_eq_true h1
    by_cases h2 : n ≤ 57
    · have HV : Hid ((decide (48 ≤ n) && decide (n ≤ 57)) = true) := Lib.hid (by simp [h1, h2])
      have d3 : decide ((n : Int) ≤ 57) = true := decide_eq_true (by omega)
      have d4 : decide (n ≤ 57) = true := decide_eq_true h2
      go_enter Tryz.func24, Tryz.ntmps24
      go_wp2
      go_ret
      exact ⟨by rw [HV.out]; rfl, rfl⟩
    · have HV : Hid ((decide (48 ≤ n) && decide (n ≤ 57)) = false) := Lib.hid (by simp [h2])
      have d3 : decide ((n : Int) ≤ 57) = false := decide_eq_false (by omega)
      have d4 : decide (n ≤ 57) = false := decide_eq_false h2
      go_enter Tryz.func24, Tryz.ntmps24
      go_wp2
      go_ret
      exact ⟨by rw [HV.out]; rfl, rfl⟩
  · have HV : Hid ((decide (48 ≤ n) && decide (n ≤ 57)) = false) := Lib.hid (by simp [h1])
    have d1 : decide ((48 : Int) ≤ (n : Int)) = false := decide_eq_false (by omega)
    have d2 : decide (48 ≤ n) = false := decide_eq_false h1
    go_enter Tryz.func24, Tryz.ntmps24
    go_wp2
    go_ret
    exact ⟨by rw [HV.out]; rfl, rfl⟩
theorem all_take {l : List UInt8} {k : Nat} (h : k < l.length) : (l.take (k + 1)).all chOk = ((l.take k).all chOk && chOk l[k]) := by
  rw [List.take_succ_eq_append_getElem h, List.all_append]
  simp
theorem all_no {l : List UInt8} {k : Nat} (h : k < l.length) (h2 : chOk l[k] = false) : nameOk l = false := by
  have : l.all chOk = false := by
    rw [List.all_eq_false]
    exact ⟨l[k], List.getElem_mem h, by rw [h2]; simp⟩
  unfold nameOk
  rw [this]
  simp
set_option maxHeartbeats 4000000 in
theorem refName_any (s : ByteArray) (w : World) (hs : s.size ≤ maxLen) :
    Calls Tryz.prog 12 #[.string s] w fun e w' => e = .returned (.bool (nameOk s.data.toList)) ∧ w' = w := by
  unfold maxLen at hs
  go_enter Tryz.func12, Tryz.ntmps12
  go_wp2
  go_loopw [3] (fun iv wr => ∃ k : Nat, k ≤ s.size ∧ iv = .int .i64 k ∧ Hid ((s.data.toList.take k).all chOk = true) ∧ w = wr) (fun iv _ => s.size - (intOf iv).toNat)
  case atStart => exact ⟨0, by omega, rfl, Lib.hid rfl, rfl⟩
  case round =>
    obtain ⟨k, hk, rfl, HQ, rfl⟩ := hrel
    by_cases hlt : k < s.size
    · have hltl : k < s.data.toList.length := by rw [← size_len]; exact hlt
      have HT : Hid ((s.data.toList.take (k + 1)).all chOk = ((s.data.toList.take k).all chOk && chOk (s[k]'hlt))) := Lib.hid (all_take hltl)
      have HNO : Hid (chOk (s[k]'hlt) = false → nameOk s.data.toList = false) := Lib.hid (all_no hltl)
      clear hltl
      have hch : chOk (s[k]'hlt) = ((decide (97 ≤ (s[k]'hlt).toNat) && decide ((s[k]'hlt).toNat ≤ 122)) || (decide (48 ≤ (s[k]'hlt).toNat) && decide ((s[k]'hlt).toNat ≤ 57))) := rfl
      have hcs : (97 ≤ (s[k]'hlt).toNat ∧ (s[k]'hlt).toNat ≤ 122) ∨ ((s[k]'hlt).toNat < 97 ∧ 48 ≤ (s[k]'hlt).toNat ∧ (s[k]'hlt).toNat ≤ 57) ∨ (s[k]'hlt).toNat < 48 ∨ (57 < (s[k]'hlt).toNat ∧ (s[k]'hlt).toNat < 97) ∨ 122 < (s[k]'hlt).toNat := by omega
      rcases hcs with ⟨h1, h2⟩ | ⟨h1, h2, h3⟩ | h1 | ⟨h1, h2⟩ | h1
      · have d1 : decide ((97 : Int) ≤ ((s[k]'hlt).toNat : Int)) = true := decide_eq_true (by omega)
        have d2 : decide (((s[k]'hlt).toNat : Int) ≤ 122) = true := decide_eq_true (by omega)
        have HR : Hid ((s.data.toList.take (k + 1)).all chOk = true) := Lib.hid (by rw [HT.out, HQ.out, hch]; simp [h1, h2])
        clear h1 h2 hch HT HNO
        go_wp2
        exact ⟨⟨k + 1, by omega, by go_num, HR, trivial⟩, by simp [intOf]; omega⟩
      · have d1 : decide ((97 : Int) ≤ ((s[k]'hlt).toNat : Int)) = false := decide_eq_false (by omega)
        have d2 : decide ((48 : Int) ≤ ((s[k]'hlt).toNat : Int)) = true := decide_eq_true (by omega)
        have d3 : decide (((s[k]'hlt).toNat : Int) ≤ 57) = true := decide_eq_true (by omega)
        have HR : Hid ((s.data.toList.take (k + 1)).all chOk = true) := Lib.hid (by rw [HT.out, HQ.out, hch]; simp [h2, h3])
        clear h1 h2 h3 hch HT HNO
        go_wp2
        exact ⟨⟨k + 1, by omega, by go_num, HR, trivial⟩, by simp [intOf]; omega⟩
      · have d1 : decide ((97 : Int) ≤ ((s[k]'hlt).toNat : Int)) = false := decide_eq_false (by omega)
        have d2 : decide ((48 : Int) ≤ ((s[k]'hlt).toNat : Int)) = false := decide_eq_false (by omega)
        have HR := Lib.hid (HNO.out (by rw [hch, decide_eq_false (show ¬ 97 ≤ (s[k]'hlt).toNat by omega), decide_eq_false (show ¬ 48 ≤ (s[k]'hlt).toNat by omega)]; rfl))
        clear h1 hch HT HNO
        go_wp2
        go_ret
        exact ⟨by rw [HR.out]; rfl, rfl⟩
      · have d1 : decide ((97 : Int) ≤ ((s[k]'hlt).toNat : Int)) = false := decide_eq_false (by omega)
        have d2 : decide ((48 : Int) ≤ ((s[k]'hlt).toNat : Int)) = true := decide_eq_true (by omega)
        have d3 : decide (((s[k]'hlt).toNat : Int) ≤ 57) = false := decide_eq_false (by omega)
        have HR := Lib.hid (HNO.out (by rw [hch, decide_eq_false (show ¬ 97 ≤ (s[k]'hlt).toNat by omega), decide_eq_false (show ¬ (s[k]'hlt).toNat ≤ 57 by omega)]; simp))
        clear h1 h2 hch HT HNO
        go_wp2
        go_ret
        exact ⟨by rw [HR.out]; rfl, rfl⟩
      · have d1 : decide ((97 : Int) ≤ ((s[k]'hlt).toNat : Int)) = true := decide_eq_true (by omega)
        have d2 : decide (((s[k]'hlt).toNat : Int) ≤ 122) = false := decide_eq_false (by omega)
        have d4 : decide ((48 : Int) ≤ ((s[k]'hlt).toNat : Int)) = true := decide_eq_true (by omega)
        have d3 : decide (((s[k]'hlt).toNat : Int) ≤ 57) = false := decide_eq_false (by omega)
        have HR := Lib.hid (HNO.out (by rw [hch, decide_eq_false (show ¬ (s[k]'hlt).toNat ≤ 122 by omega), decide_eq_false (show ¬ (s[k]'hlt).toNat ≤ 57 by omega)]; simp))
        clear h1 hch HT HNO
        go_wp2
        go_ret
        exact ⟨by rw [HR.out]; rfl, rfl⟩
    · have hks : k = s.size := by omega
      have hall : s.data.toList.all chOk = true := by
        have h := HQ.out
        rwa [List.take_of_length_le (by rw [← size_len]; omega)] at h
      have hlen : s.data.toList.length = s.size := (size_len s).symm
      have hnil : (s.data.toList ≠ []) ↔ 1 ≤ s.size := by
        rw [← hlen]
        exact ⟨fun h => List.length_pos_iff.2 h, fun h => List.length_pos_iff.1 h⟩
      by_cases h1 : 1 ≤ s.size
      · have d1 : decide ((1 : Int) ≤ (s.size : Int)) = true := decide_eq_true (by omega)
        by_cases h12 : s.size ≤ 12
        · have d2 : decide ((s.size : Int) ≤ 12) = true := decide_eq_true (by omega)
          have HV : Hid (nameOk s.data.toList = true) := Lib.hid (by
            unfold nameOk
            rw [hall, decide_eq_true (hnil.2 h1), decide_eq_true (by omega)]; rfl)
          clear hall hlen hnil hks HQ
          go_wp2
          go_ret
          exact ⟨by rw [HV.out]; rfl, rfl⟩
        · have d2 : decide ((s.size : Int) ≤ 12) = false := decide_eq_false (by omega)
          have HV : Hid (nameOk s.data.toList = false) := Lib.hid (by
            unfold nameOk
            rw [decide_eq_false (show ¬ s.data.toList.length ≤ 12 by omega)]; simp)
          clear hall hlen hnil hks HQ
          go_wp2
          go_ret
          exact ⟨by rw [HV.out]; rfl, rfl⟩
      · have d1 : decide ((1 : Int) ≤ (s.size : Int)) = false := decide_eq_false (by omega)
        have HV : Hid (nameOk s.data.toList = false) := Lib.hid (by
          unfold nameOk
          rw [decide_eq_false (fun h => h1 (hnil.1 h))]; rfl)
        clear hall hlen hnil hks HQ
        go_wp2
        go_ret
        exact ⟨by rw [HV.out]; rfl, rfl⟩
end Go.Proofs.YtannijeiecmjpaaGreatDoor
