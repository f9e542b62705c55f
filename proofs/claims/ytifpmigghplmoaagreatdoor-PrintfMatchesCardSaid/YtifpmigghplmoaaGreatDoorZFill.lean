/- text.filled: a number filled up on the left. -/
import Derived.Test.YtifpmigghplmoaaGreatDoorZPrI
import Derived.Test.YtifpmigghplmoaaGreatDoorShelf
set_option linter.unusedVariables false
set_option linter.unusedSimpArgs false
namespace Go.Pw
open Go.RowKit
/-- a number filled up to a size: with blanks, or with zeros behind its sign -/
def fillS (l : List UInt8) (w : Nat) (z : Bool) : List UInt8 :=
  if z then (if Lib.hasPrefix l [45] then 45 :: (List.replicate (w - l.length) 48 ++ Lib.trimPrefix l [45]) else List.replicate (w - l.length) 48 ++ Lib.trimPrefix l [45])
  else List.replicate (w - l.length) 32 ++ l
theorem repeatL_one (b : UInt8) : ∀ c : Nat, Lib.repeatL [b] c = List.replicate c b
  | 0 => rfl
  | c + 1 => by
    show [b] ++ Lib.repeatL [b] c = _
    rw [repeatL_one b c, List.replicate_succ]; rfl
theorem mkB_app' (l m : List UInt8) : mkB l ++ mkB m = mkB (l ++ m) := by
  rw [← mkB_list (mkB l ++ mkB m)]
  congr 1
theorem trimPrefix_len (l p : List UInt8) : (Lib.trimPrefix l p).length ≤ l.length := by
  unfold Lib.trimPrefix; split
  · rw [List.length_drop]; omega
  · exact Nat.le_refl _
end Go.Pw
namespace Go.Proofs.YtifpmigghplmoaaGreatDoor
open Go.RowKit Go.Pw
theorem repeatOne_any (b : UInt8) (c : Nat) (w : World) (hc : c ≤ 1000000) :
    Calls Tryz.prog 86 #[.string ⟨#[b]⟩, .int .i64 (c : Int)] w fun e w' => e = .returned (.string (mkB (List.replicate c b))) ∧ Below w.heap.size w w' :=
  (Tryz.strings_Repeat ⟨#[b]⟩ c w (by omega) (by have e : (⟨#[b]⟩ : ByteArray).size = 1 := rfl; rw [e]; omega)).mono fun e w' ⟨h1, h2⟩ => ⟨by rw [h1, ← repeatL_one]; rfl, h2⟩
set_option maxHeartbeats 2000000 in
theorem filled_any (s : ByteArray) (wd : Int) (z : Bool) (w : World) (hs : s.size ≤ 1000000) (h0 : 0 ≤ wd) (h1 : wd ≤ 1000000) :
    Calls Tryz.prog 77 #[.string s, .int .i64 wd, .bool z] w fun e w' => e = .returned (.string (mkB (fillS s.data.toList wd.toNat z))) ∧ Below w.heap.size w w' := by
  obtain ⟨c, hc⟩ : ∃ c : Nat, max (wd - (s.size : Int)) 0 = (c : Int) := ⟨(max (wd - (s.size : Int)) 0).toNat, by omega⟩
  have hcw : c = wd.toNat - s.data.toList.length := by rw [len_size]; omega
  have HR := hide (fun (b : UInt8) W => repeatOne_any b c W (by omega))
  have hz : ∀ b, (mkB (List.replicate c b)).size ≤ 1000000 := fun b => by rw [mkB_size, List.length_replicate]; omega
  have hz0 := hz 48
  have hz1 := hz 32
  have HC := hide hc
  have HCW := hide hcw
  clear hc hcw hz
  cases z
  · have HF : Hid (mkB (List.replicate c 32) ++ s = mkB (fillS s.data.toList wd.toNat false)) := hide (by
      unfold fillS
      rw [← HCW.out]
      conv => lhs; rw [← mkB_list s, mkB_app']
      rfl)
    obtain ⟨q, hq⟩ : ∃ q, mkB (List.replicate c 32) = q := ⟨_, rfl⟩
    have HQ := hide (fun W => HR.out 32 W)
    simp only [hq] at HQ HF hz1
    clear hq hz0
    go_enter Tryz.func77, Tryz.ntmps77
    go_wp2_with fail
    rw [HC.out]
    refine (HQ.out _).mono ?_
    rintro e w1 ⟨rfl, hb1⟩
    go_wp2_with fail
    go_ret
    exact ⟨by rw [← HF.out]; rfl, hb1⟩
  · have HF : Hid (mkB (fillS s.data.toList wd.toNat true) = if Lib.hasPrefix s.data.toList [45] then mkB [45] ++ (mkB (List.replicate c 48) ++ mkB (Lib.trimPrefix s.data.toList [45])) else mkB (List.replicate c 48) ++ mkB (Lib.trimPrefix s.data.toList [45])) := hide (by
      unfold fillS
      rw [← HCW.out, if_pos rfl, mkB_app', mkB_app']
      split <;> rfl)
    have HP := hide (fun W => Tryz.strings_CutPrefix s ⟨#[45]⟩ W)
    have ht : (mkB (Lib.trimPrefix s.data.toList [45])).size ≤ 1000000 := by
      rw [mkB_size]
      have := trimPrefix_len s.data.toList [45]
      rw [len_size] at this; omega
    obtain ⟨q, hq⟩ : ∃ q, mkB (List.replicate c 48) = q := ⟨_, rfl⟩
    have HQ := hide (fun W => HR.out 48 W)
    obtain ⟨t, htt⟩ : ∃ t, mkB (Lib.trimPrefix s.data.toList [45]) = t := ⟨_, rfl⟩
    have htt2 : (⟨(Lib.trimPrefix s.data.toList (⟨#[45]⟩ : ByteArray).data.toList).toArray⟩ : ByteArray) = t := htt
    obtain ⟨b, hb⟩ : ∃ b, Lib.hasPrefix s.data.toList (⟨#[45]⟩ : ByteArray).data.toList = b := ⟨_, rfl⟩
    have hb2 : Lib.hasPrefix s.data.toList [45] = b := hb
    simp only [hq] at HQ HF hz0
    simp only [htt] at HF ht
    simp only [hb2] at HF
    simp only [htt2, hb] at HP
    clear hq htt htt2 hb hb2 hz1
    go_enter Tryz.func77, Tryz.ntmps77
    go_wp2_with fail
    refine (HP.out _).mono ?_
    rintro e w' ⟨rfl, rfl⟩
    go_wp2_with fail
    rw [HC.out]
    refine (HQ.out _).mono ?_
    rintro e w1 ⟨rfl, hb1⟩
    cases b
    · go_wp2_with fail
      go_ret
      exact ⟨by rw [HF.out]; rfl, hb1⟩
    · go_wp2_with fail
      go_ret
      exact ⟨by rw [HF.out]; rfl, hb1⟩
end Go.Proofs.YtifpmigghplmoaaGreatDoor
