/-
  The walk of reach.name: a mark as a text, another text for each mark.
-/
import Derived.Test.YtblbgbgnifdohaaWalkK
import Derived.Laws.BytesArg
namespace Go.Proofs.Ytblbgbgnifdohaa
open Go.RowKit

theorem info5 : (Try.prog.info? 5).map (fun i => (i.zero, i.size, i.bytes)) = some (some (.int .u8 0), 1, 1) := by kernel_rfl
def nameI (xs : List Int) : List Int := xs.flatMap fun n => [n % 256, n / 256 % 256, n / 65536]
theorem nameI_len (xs : List Int) : (nameI xs).length = 3 * xs.length := by
  induction xs with
  | nil => rfl
  | cons x xs ih => simp [nameI] at ih ⊢; omega

theorem nameI_snoc {xs : List Int} {k : Nat} {x : Int} (h : xs[k]? = some x) : nameI (xs.take (k + 1)) = nameI (xs.take k) ++ [x % 256, x / 256 % 256, x / 65536] := by
  obtain ⟨hk, rfl⟩ := List.getElem?_eq_some_iff.1 h
  unfold nameI
  rw [List.take_succ_eq_append_getElem hk, List.flatMap_append]
  rfl
theorem nameI_mem {xs : List Int} (hx : ∀ x ∈ xs, 0 ≤ x ∧ x ≤ 1000000) : ∀ y ∈ nameI xs, 0 ≤ y ∧ y < 256 := by
  intro y hy
  unfold nameI at hy
  obtain ⟨x, hm, h⟩ := List.mem_flatMap.1 hy
  have := hx x hm
  simp only [List.mem_cons, List.not_mem_nil, or_false] at h
  omega
theorem ofNat_inj {a b : Int} (ha : 0 ≤ a ∧ a < 256) (hb : 0 ≤ b ∧ b < 256) (h : UInt8.ofNat a.toNat = UInt8.ofNat b.toNat) : a = b := by
  have := congrArg UInt8.toNat h
  simp only [UInt8.toNat_ofNat'] at this
  omega
/-- another text for each mark. -/
theorem name_inj : ∀ {xs ys : List Int}, (∀ x ∈ xs, 0 ≤ x ∧ x ≤ 1000000) → (∀ y ∈ ys, 0 ≤ y ∧ y ≤ 1000000) → xs.length = ys.length →
    (nameI xs).map (fun n => UInt8.ofNat n.toNat) = (nameI ys).map (fun n => UInt8.ofNat n.toNat) → xs = ys
  | [], [], _, _, _, _ => rfl
  | x :: xs, y :: ys, hx, hy, hl, h => by
    have hx0 := hx x (by simp)
    have hy0 := hy y (by simp)
    simp only [nameI, List.flatMap_cons, List.map_cons, List.cons_append, List.nil_append, List.cons.injEq] at h
    obtain ⟨h1, h2, h3, h4⟩ := h
    have e1 := ofNat_inj (by omega) (by omega) h1
    have e2 := ofNat_inj (by omega) (by omega) h2
    have e3 := ofNat_inj (by omega) (by omega) h3
    have ih := name_inj (xs := xs) (ys := ys) (fun z hz => hx z (by simp [hz])) (fun z hz => hy z (by simp [hz])) (by simpa using hl) h4
    rw [ih, show x = y by omega]
theorem key_inj {xs ys : List Int} (hx : ∀ x ∈ xs, 0 ≤ x ∧ x ≤ 1000000) (hy : ∀ y ∈ ys, 0 ≤ y ∧ y ≤ 1000000) (hl : xs.length = ys.length) (h : strOfNums (nameI xs) = strOfNums (nameI ys)) : xs = ys :=
  name_inj hx hy hl (by rw [← strOfNums_data, ← strOfNums_data, h])

set_option maxHeartbeats 1000000 in
theorem name_any (A : Option Addr) (n c : Nat) (xs : List Int) (w : World) (hn : n ≤ 16) (hl : xs.length = n) (hx : ∀ x ∈ xs, 0 ≤ x ∧ x ≤ 1000000) (hr : Reads w w.heap.size 1 A n (xs.map (Value.int .i64))) :
    Calls Try.prog 36 #[.slice A n c] w fun e w' => e = .returned (.string (strOfNums (nameI xs))) ∧ Below w.heap.size w w' := by
  obtain ⟨i0, hi, hz0, hz1, hz2⟩ := info_parts info5
  have HR := Lib.hid hr
  have HL := Lib.hid hl
  have HX := Lib.hid hx
  clear hr hl hx
  have HCE : Hid ((3 : Int) * n = ((3 * n : Nat) : Int)) := Lib.hid (by omega)
  go_enter Try.func36, Try.ntmps36
  go_wp2_with (at_make; refine wpList_make_own _ rfl _ _ 81 rfl w.heap.size 5 i0 (.int .u8 0) 1 Try.underlying81 hi hz0 hz1 .i64 .i64 _ (3 * n) rfl rfl (by first | exact HCE.out | omega) (by rw [hz2]; omega) (by unfold maxLen; omega) (Nat.le_refl _) ?_; intro w0 hown0 hgrow0)
  have HB0 : Hid (Below w.heap.size w w0) := Lib.hid ((Below.refl _ w).grown hgrow0 (Nat.le_refl _) (fun k hk => by cases hk))
  have HOWN0 := Lib.hid hown0
  clear hown0 hgrow0
  go_loopw [3, 12] (fun v i wr => ∃ k : Nat, k ≤ n ∧ i = .int .i64 k ∧ wr.ownsRow w.heap.size 5 1 v (3 * k) ((nameI (xs.take k)).map (Value.int .u8)) ∧ Below w.heap.size w wr) (fun _ i _ => n - (intOf i).toNat)
  case atStart => exact ⟨0, Nat.zero_le _, rfl, HOWN0.out, HB0.out⟩
  case round =>
    obtain ⟨k, hk, rfl, hrow, hbel⟩ := hrel
    have HROW := Lib.hid hrow
    have HBE := Lib.hid hbel
    clear hrow hbel
    by_cases hlt : k < n
    · obtain ⟨ad, rfl, _, hcell⟩ := (HR.out.below HBE.out).int_at hlt
      obtain ⟨hx1, hx2⟩ := HX.out _ (get_in HL.out hlt)
      have HXK := Lib.hid (show xs[k]? = some (xs[k]?.getD 0) by rw [List.getElem?_eq_getElem (show k < xs.length by rw [HL.out]; exact hlt)]; rfl)
      generalize hxx : xs[k]?.getD 0 = x at *
      clear hxx
      have HAT : Hid (xs[k]? = some x) := Lib.hid HXK.out
      have HNW : Hid (∀ j u, ([.int .u8 (x % 256), .int .u8 (x / 256 % 256), .int .u8 (x / 65536)] : List Value)[j]? = some u → (wr.alloc (.cells #[.int .u8 (x % 256), .int .u8 (x / 256 % 256), .int .u8 (x / 65536)] 5)).cell? ((⟨wr.heap.size, 0, none⟩ : Addr).add j) = some u) := Lib.hid (by
        intro j u hu
        rw [add_lit', Nat.zero_add]
        have := heap_alloc_new wr (.cells #[.int .u8 (x % 256), .int .u8 (x / 256 % 256), .int .u8 (x / 65536)] 5)
        simp only [World.cell?, this]
        simpa using hu)
      have HRW2 := Lib.hid (HROW.out.alloc (.cells #[.int .u8 (x % 256), .int .u8 (x / 256 % 256), .int .u8 (x / 65536)] 5))
      have hgr := HBE.out.size
      obtain ⟨W2, hW2⟩ : ∃ W2, wr.alloc (.cells #[.int .u8 (x % 256), .int .u8 (x / 256 % 256), .int .u8 (x / 65536)] 5) = W2 := ⟨_, rfl⟩
      have HBW : Hid (Below w.heap.size w W2) := Lib.hid (hW2 ▸ HBE.out.alloc hgr _)
      rw [hW2] at HNW HRW2
      have HW2 := Lib.hid hW2
      clear hW2
      go_wp2_with (at_builtin; rw [HW2.out]; refine wpList_append_own _ rfl (.tmp 16) (.tmp 25) 81 rfl w.heap.size 5 i0 _ 1 1 Try.underlying81 hi hz0 hz1 hz2 rfl (by decide) u3 (3 * k) ((nameI (xs.take k)).map (Value.int .u8)) rfl HRW2.out ⟨wr.heap.size, 0, none⟩ 3 3 [.int .u8 (x % 256), .int .u8 (x / 256 % 256), .int .u8 (x / 65536)] rfl rfl HNW.out ?c2 ?c3 ?c4 ?c5 ?_)
      case c2 => intro u hu; simp at hu; rcases hu with rfl | rfl | rfl <;> rfl
      case c3 => simp only [maxLen]; omega
      case c4 => omega
      case c5 => exact HBW.out.size
      intro v5 w5 hown5 hgrow5 _
      have HW5 := Lib.hid hown5
      have HBG : Hid (Below w.heap.size w w5) := Lib.hid (HBW.out.grown hgrow5 HBW.out.size (fun k hk => (HRW2.out.lt k hk).1))
      clear hown5 hgrow5
      go_wp2_with fail
      go_roundw
      case rel => exact ⟨k + 1, by omega, by go_num, by rw [nameI_snoc HAT.out]; have h5 := HW5.out; simpa [Nat.mul_add] using h5, HBG.out⟩
      case measure => simp [intOf]; omega
    · obtain rfl : k = n := by omega
      have h := HROW.out
      rw [List.take_of_length_le (by rw [HL.out]; omega)] at h
      have HN := Lib.hid (nameI_len xs)
      rcases Nat.eq_zero_or_pos k with h0 | h0
      · subst h0
        have hxs : xs = [] := List.length_eq_zero_iff.1 HL.out
        subst hxs
        rcases h.2 with ⟨rfl, _⟩ | ⟨g, cap, cur, rfl, _⟩
        · have hcb := run_convert_bytes_nil (P := Try.prog) wr 81 5 Try.underlying81 Try.underlying5 0 0 9 Try.underlying9
          clear h
          go_wp2_with fail
          go_ret
          exact ⟨rfl, HBE.out⟩
        · have hcb := run_convert_bytes_arg (P := Try.prog) wr 81 5 Try.underlying81 Try.underlying5 g 0 0 cap [] rfl (fun i hi => absurd hi (by omega)) 9 Try.underlying9
          clear h
          go_wp2_with fail
          go_ret
          exact ⟨rfl, HBE.out⟩
      · obtain ⟨g, cap, rfl, hg1, hg2⟩ := h.form (by omega)
        have HCB := Lib.hid (run_convert_bytes_arg (P := Try.prog) wr 81 5 Try.underlying81 Try.underlying5 g 0 (3 * k) cap (nameI xs) (by rw [HN.out, HL.out]) (fun i hi => by
          rw [Nat.zero_add, h.cellAt i (by omega)]
          have : i < (nameI xs).length := by rw [HN.out, HL.out]; exact hi
          simp [List.getD, List.getElem?_eq_getElem this]) 9 Try.underlying9)
        clear h
        have hcb := HCB.out
        go_wp2_with fail
        go_ret
        exact ⟨rfl, HBE.out⟩
end Go.Proofs.Ytblbgbgnifdohaa
