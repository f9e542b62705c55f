/- Printf, the reference: padded at a directive. -/
import Derived.Test.YtifpmigghplmoaaGreatDoorZPfRc
import Derived.Test.YtifpmigghplmoaaGreatDoorZPfRf
set_option linter.unusedVariables false
set_option linter.unusedSimpArgs false
namespace Go.Proofs.YtifpmigghplmoaaGreatDoor
open Go.RowKit Go.Pw Go.Shelf
/-- the reference's directive value, its flags and precision under names -/
theorem rvC_row (d : Dv) (k : Nat) (h0 : ¬ d.lt = 0) : rvC d k = #[.bool (decide (45 ∈ d.fl)), .bool (decide (43 ∈ d.fl)), .bool (decide (32 ∈ d.fl)), .bool (decide (48 ∈ d.fl)), .bool (decide (35 ∈ d.fl)), .int .i64 (d.wd : Int), .int .i64 (if d.dot = true then (d.pr : Int) else -1), .int .u8 (d.lt.toNat : Int), .int .i64 (k : Int)] := by
  unfold rvC; rw [if_neg h0]
theorem pad_num (d : Dv) (hd : DvOk d) (h0 : ¬ d.lt = 0) (k : Nat) (H E : List UInt8) (hH : H.length ≤ 100000) (hE : E.length ≤ 100000) (W : World) :
    Calls Tryz.prog 90 #[.agg (rvC d k), .string (mkB H), .string (mkB E), .bool true] W fun e w' => e = .returned (.string (mkB (padP d (H ++ zerP d H.length E)))) ∧ Below W.heap.size W w' := by
  rw [rvC_row d k h0]
  have hwd := hd.2.1
  by_cases h45 : 45 ∈ d.fl
  · rw [decide_eq_true h45]
    have hz : zerP d H.length E = E := by unfold zerP; rw [if_neg (fun x => x.2.1 h45)]
    have e : mkB (padP d (H ++ zerP d H.length E)) = mkB H ++ (mkB E ++ mkB (List.replicate (d.wd - ((mkB H).size + (mkB E).size)) 32)) := by
      rw [hz, mkB_app', mkB_app', mkB_size, mkB_size]
      unfold padP; rw [if_pos h45, List.length_append, List.append_assoc]
    rw [e]
    exact padded_minus _ _ _ _ _ d.wd _ _ _ _ _ hwd (by rw [mkB_size]; exact hH) (by rw [mkB_size]; exact hE) W
  · rw [decide_eq_false h45]
    by_cases hz : 48 ∈ d.fl ∧ d.dot = false
    · have e48 : decide (48 ∈ d.fl) = true := decide_eq_true hz.1
      have ep : (if d.dot = true then (d.pr : Int) else -1) = -1 := by rw [hz.2]; rfl
      rw [e48, ep]
      have hzz : zerP d H.length E = List.replicate (d.wd - H.length - E.length) 48 ++ E := by unfold zerP; rw [if_pos ⟨hz.1, h45, hz.2⟩]
      have e : mkB (padP d (H ++ zerP d H.length E)) = mkB H ++ (mkB (List.replicate (d.wd - ((mkB H).size + (mkB E).size)) 48) ++ mkB E) := by
        rw [hzz, mkB_app', mkB_app', mkB_size, mkB_size]
        unfold padP; rw [if_neg h45]
        have e0 : d.wd - (H ++ (List.replicate (d.wd - H.length - E.length) 48 ++ E)).length = 0 := by simp; omega
        have e1 : d.wd - (H.length + E.length) = d.wd - H.length - E.length := by omega
        rw [e0, e1]
        simp
      rw [e]
      exact padded_zero _ _ _ d.wd (-1) _ _ _ _ (by omega) hwd (by rw [mkB_size]; exact hH) (by rw [mkB_size]; exact hE) W
    · have hzz : zerP d H.length E = E := by unfold zerP; rw [if_neg (fun x => hz ⟨x.1, x.2.2⟩)]
      have e : mkB (padP d (H ++ zerP d H.length E)) = (mkB (List.replicate (d.wd - ((mkB H).size + (mkB E).size)) 32) ++ mkB H) ++ mkB E := by
        rw [hzz, mkB_app', mkB_app', mkB_size, mkB_size]
        unfold padP; rw [if_neg h45, List.length_append, List.append_assoc]
      rw [e]
      refine padded_blank _ _ _ _ _ d.wd _ _ _ _ _ ?_ hwd (by rw [mkB_size]; exact hH) (by rw [mkB_size]; exact hE) W
      rintro ⟨h1, -, h3⟩
      refine hz ⟨of_decide_eq_true h1, ?_⟩
      cases hdd : d.dot with
      | false => rfl
      | true => rw [hdd] at h3; simp at h3; omega
theorem pad_txt (d : Dv) (hd : DvOk d) (h0 : ¬ d.lt = 0) (k : Nat) (E : List UInt8) (hE : E.length ≤ 100000) (W : World) :
    Calls Tryz.prog 90 #[.agg (rvC d k), .string ⟨#[]⟩, .string (mkB E), .bool false] W fun e w' => e = .returned (.string (mkB (padP d E))) ∧ Below W.heap.size W w' := by
  rw [rvC_row d k h0]
  have hwd := hd.2.1
  have em : (⟨#[]⟩ : ByteArray) = mkB [] := rfl
  by_cases h45 : 45 ∈ d.fl
  · rw [decide_eq_true h45]
    have e : mkB (padP d E) = (⟨#[]⟩ : ByteArray) ++ (mkB E ++ mkB (List.replicate (d.wd - ((⟨#[]⟩ : ByteArray).size + (mkB E).size)) 32)) := by
      rw [em, mkB_app', mkB_app', mkB_size, mkB_size]
      unfold padP; rw [if_pos h45]; simp
    rw [e]
    exact padded_minus _ _ _ _ _ d.wd _ _ _ _ _ hwd (by rw [em, mkB_size]; simp) (by rw [mkB_size]; exact hE) W
  · rw [decide_eq_false h45]
    have e : mkB (padP d E) = (mkB (List.replicate (d.wd - ((⟨#[]⟩ : ByteArray).size + (mkB E).size)) 32) ++ (⟨#[]⟩ : ByteArray)) ++ mkB E := by
      rw [em, mkB_app', mkB_app', mkB_size, mkB_size]
      unfold padP; rw [if_neg h45]; simp
    rw [e]
    exact padded_blank _ _ _ _ _ d.wd _ _ _ _ _ (fun x => by simp at x) hwd (by rw [em, mkB_size]; simp) (by rw [mkB_size]; exact hE) W
end Go.Proofs.YtifpmigghplmoaaGreatDoor
