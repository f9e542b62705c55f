import Derived.Test.YtfjbdbdjhkmifaaLists
import Derived.Test.YtfjbdbdjhkmifaaHunk
set_option linter.unusedSimpArgs false
set_option linter.unusedVariables false
namespace Go.Proofs.Ytfjbdbdjhkmifaa
open Go.RowKit Go.Pw

/-- whether all lists are short -/
def fewB (ls : List (List ByteArray)) : Bool := ls.all fun l => decide (l.length ≤ 60)
theorem fewB_cons (l : List ByteArray) (ls : List (List ByteArray)) : fewB (l :: ls) = (decide (l.length ≤ 60) && fewB ls) := by simp [fewB]

set_option maxHeartbeats 1000000 in
theorem few_any (v : Value) (ls : List (List ByteArray)) (w : World) (h : StrsL w v ls) :
    Calls Try.prog 9 #[v] w fun e w' => e = .returned (.bool (fewB ls)) ∧ w = w' := by
  obtain ⟨vs, hvl, ⟨_, A, cap, rfl, hcap, hmax, hx⟩, hel⟩ := h
  unfold maxLen at hmax
  have HX := hide hx
  have HE := hide hel
  have HV := hide hvl
  clear hx hel hvl
  go_enter Try.func9, Try.ntmps9
  go_wp2
  go_loop [8] (fun i => ∃ k : Nat, k ≤ ls.length ∧ i = .int .i64 (k : Int) ∧ Hid (fewB ls = fewB (ls.drop k))) (fun i => ls.length - (intOf i).toNat)
  case atStart => exact ⟨0, by omega, rfl, rfl⟩
  case round =>
    obtain ⟨k, hk, rfl, hf⟩ := hrel
    by_cases hlt : k < ls.length
    · obtain ⟨b, o, rfl, hb, hj⟩ := HX.out (by omega)
      have hkv : k < vs.length := by rw [HV.out]; exact hlt
      obtain ⟨⟨_, A2, cap2, hv2, hcap2, hmax2, _⟩, _⟩ := HE.out k _ _ (List.getElem?_eq_getElem hkv) (List.getElem?_eq_getElem hlt)
      have hc : w.cell? ⟨b, o + k, none⟩ = some (.slice A2 ls[k].length cap2) := hj k _ (by rw [List.getElem?_eq_getElem hkv, hv2])
      clear hj hv2 hkv
      unfold maxLen at hmax2
      have hf2 := hf.out
      rw [List.drop_eq_getElem_cons hlt, fewB_cons] at hf2
      have HF2 := hide hf2
      clear hf2
      by_cases hl : 60 < ls[k].length
      · have hl' : decide ((60 : Int) < (ls[k].length : Int)) = true := by simp; omega
        go_wp2
        go_ret
        refine ⟨ret_bool ?_, rfl⟩
        rw [HF2.out, decide_eq_false (by omega)]
        rfl
      · have hl' : decide ((60 : Int) < (ls[k].length : Int)) = false := by simp; omega
        go_wp2
        go_round
        case rel => exact ⟨k + 1, by omega, by go_num, by rw [HF2.out, decide_eq_true (by omega)]; rfl⟩
        case measure => simp [intOf]; omega
    · have hf2 := hf.out
      rw [List.drop_of_length_le (by omega)] at hf2
      have HF2 := hide hf2
      clear hf2
      go_wp2
      go_ret
      exact ⟨ret_bool (by rw [HF2.out]; rfl), rfl⟩

theorem info_string : (Try.prog.info? 9).map (fun i => (i.zero, i.size, i.bytes)) = some (some (.string ByteArray.empty), 1, 16) := by kernel_rfl
theorem one_new (w : World) (x : Value) (t : TypeId) : ∀ (j : Nat) (u : Value), [x][j]? = some u → (w.alloc (.cells #[x] t)).cell? (Addr.add ⟨w.heap.size, 0, none⟩ j) = some u
  | 0, u, h => by simp at h; subst h; simp [Addr.add, World.cell?_alloc_new]
  | j + 1, u, h => by simp at h

/-- a part of a list -/
def partOf (l : List ByteArray) (i j : Nat) : List ByteArray := (l.drop i).take (j - i)

set_option maxHeartbeats 1000000 in
theorem sub_own (v : Value) (l : List ByteArray) (f t : Nat) (w : World) (h : Strs w v l) (h1 : f ≤ t) (h2 : t ≤ l.length) (hl : l.length ≤ 1000000) :
    Calls Try.prog 42 #[v, .int .i64 (f : Int), .int .i64 (t : Int)] w fun e w' => ∃ A n c, e = .returned (.slice A n c) ∧ Strs w' (.slice A n c) (partOf l f t) ∧ w'.ownsRow w.heap.size 9 1 (.slice A n c) n ((partOf l f t).map Value.string) ∧ Below w.heap.size w w' := by
  have hh := h
  obtain ⟨⟨_, A, cap, rfl, hcap, hmax, hx⟩, hsz⟩ := h
  obtain ⟨vk, rk, sk⟩ := cut_both hh h1 h2
  have e1 : (f : Int) ≤ (t : Int) := by omega
  have e2 : (t : Int) ≤ (cap : Int) := by omega
  obtain ⟨⟨_, B, cb, rfl, hcb, hmb, hxb⟩, hsb⟩ := sk
  have hlen : ((l.drop f).take (t - f)).length = t - f := by simp; omega
  rw [hlen] at rk hcb
  have HX := hide hxb
  have HS := hide hsb
  obtain ⟨ip, hip, hpz, hps, hpb⟩ := info_parts info_string
  unfold maxLen at hmb hmax
  clear hxb hsb hh hx hsz
  obtain ⟨p, hp⟩ : ∃ p, p = (l.drop f).take (t - f) := ⟨_, rfl⟩
  rw [← hp] at HX HS hlen
  obtain ⟨m, hm⟩ : ∃ m, m = t - f := ⟨_, rfl⟩
  rw [← hm] at rk hlen hcb
  have hml : m ≤ 1000000 := by omega
  have HLEN := hide hlen
  have HP := hide hp
  clear hlen hm hp
  go_enter Try.func42, Try.ntmps42
  go_wp2
  go_loopw [7, 15] (fun v i wr => ∃ k : Nat, k ≤ m ∧ i = .int .i64 (k : Int) ∧ wr.ownsRow w.heap.size 9 1 v k ((p.take k).map Value.string) ∧ Below w.heap.size w wr) (fun _ i _ => m - (intOf i).toNat)
  case atStart => exact ⟨0, by omega, rfl, World.ownsRow_nil _ _ _ _, Below.refl _ _⟩
  case round =>
    obtain ⟨k, hk, rfl, hown, hbl⟩ := hrel
    by_cases hlt : k < m
    · have hkp : k < p.length := by rw [HLEN.out]; exact hlt
      obtain ⟨b, o, rfl, hb, hj⟩ := HX.out (by omega)
      have hc : wr.cell? ⟨b, o + k, none⟩ = some (.string p[k]) := (hbl.cell hb).trans (hj k _ (by simp [hkp]))
      clear hj
      go_wp2_with (at_builtin; refine wpList_append_own _ rfl _ _ 22 rfl w.heap.size 9 ip _ 1 16 Try.underlying22 hip hpz hps hpb rfl (by decide) _ _ _ rfl (hown.alloc _) ⟨wr.heap.size, 0, none⟩ 1 1 [.string p[k]] rfl rfl ?c1 ?c2 ?c3 ?c4 ?c5 ?_)
      case c1 => exact one_new _ _ _
      case c2 => intro u hu; simp at hu; subst hu; rfl
      case c3 => unfold maxLen; omega
      case c4 => omega
      case c5 => have := hbl.size; simp; omega
      · intro v' w3 hown' hgrow _
        have hb3 : Below w.heap.size w w3 := hbl.trans (below_append hown hbl.size hgrow)
        have ho3 : w3.ownsRow w.heap.size 9 1 v' (k + 1) ((p.take (k + 1)).map Value.string) := by
          rw [List.take_succ_eq_append_getElem hkp, List.map_append]; simpa using hown'
        clear hown' hgrow hown hbl hc
        go_wp2
        go_roundw
        case rel => exact ⟨k + 1, by omega, by go_num, ho3, hb3⟩
        case measure => simp [intOf]; omega
    · obtain rfl : k = m := by omega
      have hown2 := hown
      rw [List.take_of_length_le (by have := HLEN.out; omega)] at hown2
      have HO := hide hown2
      clear hown2 hown
      go_wp2
      go_ret
      have hst : Strs wr u7 p := ⟨by rw [HLEN.out]; exact .of_own HO.out, HS.out⟩
      have hst2 := hst
      obtain ⟨⟨_, A', cap', rfl, _⟩, _⟩ := hst2
      exact ⟨A', _, cap', rfl, by unfold partOf; rw [← HP.out]; exact hst, by unfold partOf; rw [← HP.out]; have := HO.out; rw [← HLEN.out] at this; exact this, hbl⟩
theorem sub_any (v : Value) (l : List ByteArray) (f t : Nat) (w : World) (h : Strs w v l) (h1 : f ≤ t) (h2 : t ≤ l.length) (hl : l.length ≤ 1000000) :
    Calls Try.prog 42 #[v, .int .i64 (f : Int), .int .i64 (t : Int)] w fun e w' => ∃ A n c, e = .returned (.slice A n c) ∧ Strs w' (.slice A n c) (partOf l f t) ∧ (∀ g, (Value.slice A n c).ownBlock = some g → w.heap.size ≤ g ∧ g < w'.heap.size) ∧ Below w.heap.size w w' := by
  refine (sub_own v l f t w h h1 h2 hl).mono ?_
  rintro e w' ⟨A, n, c, rfl, h1, h2, h3⟩
  exact ⟨A, n, c, rfl, h1, fun g hg => ⟨own_ge h2 g hg, own_lt h2 g hg⟩, h3⟩
end Go.Proofs.Ytfjbdbdjhkmifaa
