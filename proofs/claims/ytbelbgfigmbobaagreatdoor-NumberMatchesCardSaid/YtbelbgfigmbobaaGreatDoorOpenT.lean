/- What came in, opened: an order of lines; how long a string can be. -/
import Derived.Test.YtbelbgfigmbobaaGreatDoorRows
import Derived.Test.YtbelbgfigmbobaaGreatDoorKeys
import Derived.Deep.Slices
import Derived.JoinedCond
import Derived.ChangeSame
import Derived.SizedLaws
import Derived.OpenShut
import Derived.ShutString
namespace Go.Proofs.YtbelbgfigmbobaaGreatDoor
open Go.ChangeShapes Go.WideShapes Go.ChangeAt Go.RowKit Go.Pw Go.Deep
open Go.ChangeMaps (open_string shut_string)
set_option linter.unusedVariables false

theorem str_sized {H : Type} {ts : List TypeId} {ds : List (DataW H)} {j : Nat} {t : TypeId} {s : ByteArray} (hsz : (DataW.weightsEach Tryz.prog ts ds).all (· ≤ reachBytes) = true) (ht : ts[j]? = some t) (hd : ds[j]? = some (.lit (.string s.data.toList))) :
    s.size ≤ 140737488355328 := by
  have h1 := sized_string hsz ht hd
  have h2 := reachBytes_lt
  have e : s.data.toList.length = s.size := Array.length_toList
  have e2 : (2 : Nat) ^ 47 = 140737488355328 := by decide
  omega
theorem spot_none {W : World} {x : Addr} {v : Value} (h : W.cell? x = some v) : x.spot = none := by
  unfold World.cell? at h
  split at h
  · split at h
    · cases h
    · rename_i hs; simpa using hs
  · cases h
theorem list_of {α : Type} {n : Nat} {Q : Nat → α → Prop} (h : ∀ i, i < n → ∃ a, Q i a) : ∃ (xs : List α), xs.length = n ∧ ∀ i a, xs[i]? = some a → Q i a := by
  induction n with
  | zero => exact ⟨[], rfl, fun i a h => by simp at h⟩
  | succ n ih =>
    obtain ⟨xs, h1, h3⟩ := ih fun i hi => h i (by omega)
    obtain ⟨a, hq⟩ := h n (by omega)
    refine ⟨xs ++ [a], by simp [h1], fun i x hx => ?_⟩
    by_cases hi : i < n
    · rw [List.getElem?_append_left (by omega)] at hx
      exact h3 i x hx
    · have hin : i = n := by
        have := (List.getElem?_eq_some_iff.1 hx).1
        simp at this; omega
      subst hin
      rw [List.getElem?_append_right (by omega)] at hx
      simp [h1] at hx
      subst hx
      exact hq
theorem addr_add (x : Addr) (h : x.spot = none) (j : Nat) : x.add j = ⟨x.block, x.off + j, none⟩ := by
  obtain ⟨b, o, s⟩ := x
  simp only at h
  subst h
  unfold Addr.add
  split
  · rename_i e; subst e; rfl
  · rfl
theorem kysCells_inv : ∀ (l : List Ky) (j : Nat) (u : Value), (kysCells l)[j]? = some u → ∃ (i r : Nat) (k : Ky), l[i]? = some k ∧ j = 8 * i + r ∧ (kyCells k)[r]? = some u
  | [], j, u, h => by simp [kysCells] at h
  | k :: l, j, u, h => by
    rw [kysCells] at h
    have hl : (kyCells k).length = 8 := rfl
    by_cases hj : j < 8
    · exact ⟨0, j, k, rfl, by omega, by rw [List.getElem?_append_left (by omega)] at h; exact h⟩
    · rw [List.getElem?_append_right (by omega)] at h
      obtain ⟨i, r, q, h1, h2, h3⟩ := kysCells_inv l _ u h
      exact ⟨i + 1, r, q, by simpa using h1, by omega, h3⟩
section
variable {H : Type} {enc : TypeId × Value → H} {W : World} {n : Nat} {v : Value} {y : DataW H × List MemPlace}
theorem int_of (h : DataW.trod enc Tryz.prog W 0 (fun _ => true) true n 3 [v] = some y) : ∃ x : Int, v = .int .i64 x := by
  obtain ⟨x, e, _, hw⟩ := DataW.trod_int Tryz.underlying3 h
  simp only [List.cons.injEq, and_true] at e
  exact ⟨x, e⟩
theorem bool_of (h : DataW.trod enc Tryz.prog W 0 (fun _ => true) true n 4 [v] = some y) : ∃ x : Bool, v = .bool x := by
  obtain ⟨x, e, _⟩ := DataW.trod_bool Tryz.underlying4 h
  simp only [List.cons.injEq, and_true] at e
  exact ⟨x, e⟩
theorem string_of (h : DataW.trod enc Tryz.prog W 0 (fun _ => true) true n 9 [v] = some y) : ∃ x : ByteArray, v = .string x ∧ x.size ≤ maxLen := by
  obtain ⟨x, e, _, hw⟩ := DataW.trod_string Tryz.underlying9 h
  simp only [List.cons.injEq, and_true] at e
  exact ⟨x, e, hw⟩
end
set_option maxRecDepth 100000 in
theorem key_at {H : Type} {enc : TypeId × Value → H} {W : World} {n : Nat} {cs : List Value} {y : DataW H × List MemPlace} (h : DataW.trod enc Tryz.prog W 0 (fun _ => true) true n 76 cs = some y) :
    ∃ k : Ky, cs = kyCells k := by
  obtain ⟨xs, m, _, rfl, hl, hlen, hf⟩ := DataW.trod_struct Tryz.underlying76 h
  have hC : Tryz.prog.cellsOf 76 = 8 := by kernel_rfl
  have k1 : Tryz.prog.cellsOf 3 = 1 := by kernel_rfl
  have k2 : Tryz.prog.cellsOf 4 = 1 := by kernel_rfl
  rw [hC] at hl
  match cs, hl, xs, hlen with
  | [c0, c1, c2, c3, c4, c5, c6, c7], _, [y0, y1, y2, y3, y4, y5, y6, y7], _ =>
    have hi : ∀ (j : Nat) (c : Value) (z : DataW H × List MemPlace), ([c0, c1, c2, c3, c4, c5, c6, c7].drop j).take 1 = [c] → DataW.trod enc Tryz.prog W 0 (fun _ => true) true m 3 (([c0, c1, c2, c3, c4, c5, c6, c7].drop j).take (Tryz.prog.cellsOf 3)) = some z → ∃ x : Int, c = .int .i64 x := fun j c z e h => by
      rw [k1, e] at h; exact int_of h
    have hb : ∀ (j : Nat) (c : Value) (z : DataW H × List MemPlace), ([c0, c1, c2, c3, c4, c5, c6, c7].drop j).take 1 = [c] → DataW.trod enc Tryz.prog W 0 (fun _ => true) true m 4 (([c0, c1, c2, c3, c4, c5, c6, c7].drop j).take (Tryz.prog.cellsOf 4)) = some z → ∃ x : Bool, c = .bool x := fun j c z e h => by
      rw [k2, e] at h; exact bool_of h
    obtain ⟨x0, rfl⟩ := hi 0 c0 y0 rfl (hf 0 _ rfl)
    obtain ⟨x1, rfl⟩ := hi 1 c1 y1 rfl (hf 1 _ rfl)
    obtain ⟨x2, rfl⟩ := hi 2 c2 y2 rfl (hf 2 _ rfl)
    obtain ⟨x3, rfl⟩ := hi 3 c3 y3 rfl (hf 3 _ rfl)
    obtain ⟨x4, rfl⟩ := hb 4 c4 y4 rfl (hf 4 _ rfl)
    obtain ⟨x5, rfl⟩ := hb 5 c5 y5 rfl (hf 5 _ rfl)
    obtain ⟨x6, rfl⟩ := hb 6 c6 y6 rfl (hf 6 _ rfl)
    obtain ⟨x7, rfl⟩ := hb 7 c7 y7 rfl (hf 7 _ rfl)
    exact ⟨⟨x0, x1, x2, x3, x4, x5, x6, x7⟩, rfl⟩
set_option maxRecDepth 100000 in
theorem keys_of {H : Type} {enc : TypeId × Value → H} {W : World} {fuel : Nat} {v : Value} {y : DataW H × List MemPlace} (hf : DataW.trod enc Tryz.prog W 0 (fun _ => true) true fuel 77 [v] = some y) :
    ∃ ks, KeysIn W v ks := by
  have hC : Tryz.prog.cellsOf 76 = 8 := by kernel_rfl
  rcases open_slice Tryz.underlying77 hf with ⟨hcs, hx⟩ | ⟨x, l, c, m, n, D, Pl, hcs, _, hl, hm, hmm, hx, hel⟩
  · simp at hcs
    subst hcs
    exact ⟨[], Rd.nil _ _⟩
  · simp at hcs
    subst hcs
    have hmc : m = c := by simpa using hmm
    rw [hC] at hel
    have key : ∀ i, i < l → ∃ (k : Ky), (∀ r y, (kyCells k)[r]? = some y → W.cell? ((x.add (i * 8)).add r) = some y) := by
      intro i hi
      obtain ⟨cs', hc, ht⟩ := hel i (by omega)
      obtain ⟨_, hcl, hat⟩ := World.cells?_some hc
      obtain ⟨k, rfl⟩ := key_at ht
      refine ⟨k, fun r y hy => ?_⟩
      rw [hat r (by have := (List.getElem?_eq_some_iff.1 hy).1; simpa [kyCells] using this)]
      exact hy
    obtain ⟨ks, e1, hq⟩ := list_of key
    refine ⟨ks, kysCells_len _, some x, c, by rw [e1], by omega, hm, fun hn => ?_⟩
    have h0 := hq 0 ks[0] (List.getElem?_eq_getElem (by omega)) 0 _ rfl
    have h00 : (x.add (0 * 8)).add 0 = x := by simp [Addr.add]
    rw [h00] at h0
    have hsp := spot_none h0
    refine ⟨x.block, x.off, by obtain ⟨_, _, s⟩ := x; simp only at hsp; subst hsp; rfl, World.block_lt_of_cell? W x h0, fun j u hu => ?_⟩
    obtain ⟨i, r, k, hp, rfl, hr⟩ := kysCells_inv ks j u hu
    have := hq i k hp r u hr
    rw [addr_add x hsp, addr_add _ rfl] at this
    simp only at this
    rw [show x.off + (8 * i + r) = x.off + i * 8 + r by omega]
    exact this
set_option maxRecDepth 100000 in
/-- an order of lines that came in -/
theorem spec_in {H : Type} {enc : TypeId × Value → H} {W : World} {base : Nat} {v : Value} {d : DataW H} {p : List MemPlace} (hv : Value.okWide Tryz.prog W .any base 79 v)
    (h : DataW.Trod enc Tryz.prog W 0 (fun _ => true) true 79 v d p) : ∃ (o : Sp) (kv : Value), v = spV o kv ∧ KeysIn W kv o.keys ∧ o.sep.size ≤ maxLen := by
  obtain ⟨cs, rfl, hsz⟩ := okWide_struct Tryz.underlying79 hv
  have hC : Tryz.prog.cellsOf 79 = 5 := by kernel_rfl
  have k0 : Tryz.prog.cellsOf 9 = 1 := by kernel_rfl
  have k1 : Tryz.prog.cellsOf 77 = 1 := by kernel_rfl
  have k2 : Tryz.prog.cellsOf 4 = 1 := by kernel_rfl
  obtain ⟨l⟩ := cs
  match l, hsz.trans hC with
  | [c0, c1, c2, c3, c4], _ =>
    obtain ⟨fuel, hf⟩ := h
    obtain ⟨xs, m, _, hx, _, hlen, hg⟩ := DataW.trod_struct Tryz.underlying79 hf
    match xs, hlen with
    | [y0, y1, y2, y3, y4], _ =>
      have hb : ∀ (j : Nat) (c : Value) (z : DataW H × List MemPlace), ([c0, c1, c2, c3, c4].drop j).take 1 = [c] → DataW.trod enc Tryz.prog W 0 (fun _ => true) true m 4 (([c0, c1, c2, c3, c4].drop j).take (Tryz.prog.cellsOf 4)) = some z → ∃ x : Bool, c = .bool x := fun j c z e h => by
        rw [k2, e] at h; exact bool_of h
      have q0 : DataW.trod enc Tryz.prog W 0 (fun _ => true) true m 9 (([c0, c1, c2, c3, c4].drop 0).take (Tryz.prog.cellsOf 9)) = some y0 := hg 0 _ rfl
      rw [k0] at q0
      obtain ⟨s, rfl, hs⟩ := string_of (v := c0) q0
      have q1 : DataW.trod enc Tryz.prog W 0 (fun _ => true) true m 77 (([.string s, c1, c2, c3, c4].drop 1).take (Tryz.prog.cellsOf 77)) = some y1 := hg 1 _ rfl
      rw [k1] at q1
      obtain ⟨ks, hks⟩ := keys_of (v := c1) q1
      obtain ⟨x2, rfl⟩ := hb 2 c2 y2 rfl (hg 2 _ rfl)
      obtain ⟨x3, rfl⟩ := hb 3 c3 y3 rfl (hg 3 _ rfl)
      obtain ⟨x4, rfl⟩ := hb 4 c4 y4 rfl (hg 4 _ rfl)
      exact ⟨⟨s, ks, x2, x3, x4⟩, c1, rfl, hks, hs⟩
end Go.Proofs.YtbelbgfigmbobaaGreatDoor
