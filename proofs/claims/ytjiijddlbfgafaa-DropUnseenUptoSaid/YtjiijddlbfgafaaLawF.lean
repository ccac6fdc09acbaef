/- morainelaw21.DropUnseen walked. -/
import Derived.Test.YtjiijddlbfgafaaLawC
import Derived.Test.YtjiijddlbfgafaaLawU
import Derived.Test.YtjiijddlbfgafaaOlder
import Derived.BigQuiet
import Derived.Deep.LoopGhost
import Derived.Deep.RegionHeld3
import Derived.Deep.DeepCutAuto
import Derived.Deep.CutBlock
set_option linter.unusedVariables false
set_option linter.unusedSimpArgs false
namespace Go.Proofs.Ytjiijddlbfgafaa
open Go.RowKit Go.Lib Go.Shelf
theorem least_l {l : List Ent} {t : List Tomb} : ∀ a ∈ l, leastS l t ≤ a.seq := by
  have h1 : ∀ (t : List Tomb) (m : Int), minT t m ≤ m := fun t => by
    induction t with
    | nil => intro m; exact Int.le_refl _
    | cons x t ih => intro m; exact Int.le_trans (ih _) (Int.min_le_left _ _)
  have h2 : ∀ (l : List Ent) (m : Int), minE l m ≤ m ∧ ∀ a ∈ l, minE l m ≤ a.seq := fun l => by
    induction l with
    | nil => intro m; exact ⟨Int.le_refl _, by simp⟩
    | cons x l ih =>
      intro m
      obtain ⟨g1, g2⟩ := ih (min m x.seq)
      refine ⟨Int.le_trans g1 (Int.min_le_left _ _), fun a ha => ?_⟩
      rcases List.mem_cons.1 ha with rfl | ha
      · exact Int.le_trans g1 (Int.min_le_right _ _)
      · exact g2 a ha
  intro a ha
  exact Int.le_trans (h1 t _) ((h2 l _).2 a ha)
theorem keptE_len' (S : List Int) (bl : List File) (t : List Tomb) (l : List Ent) : (keptE S bl t l).length ≤ l.length := by
  have h : (sortedE l).length = l.length := by simp [sortedE]
  have := keptTo_len (p := keepAt S bl (rowsOf S t) (sortedE l)) (sl := sortedE l) (sortedE l).length
  unfold keptE
  omega
theorem keptT_len' (S : List Int) (bl : List File) (t : List Tomb) : (keptT S bl t).length ≤ t.length := Nat.le_trans (List.length_filter_le _ _) (List.length_filter_le _ _)
theorem Rds.lit1 (w : World) (q : Int) : Rds (en1 (Value.int .u64)) 1 (w.alloc (.cells #[.int .u64 q] 36)) (some ⟨w.heap.size, 0, none⟩) [q] := by
  intro j x hx
  have hj : j = 0 := by
    have := (List.getElem?_eq_some_iff.1 hx).1
    simp at this
    exact this
  subst hj
  simp at hx
  subst hx
  refine ⟨_, rfl, fun i u hu => ?_⟩
  have hh := World.news_of_block (heap_alloc_new w (.cells #[.int .u64 q] 36)) i u (by simpa [en1] using hu)
  simpa using hh
/-- seen, of lists that lie at W. -/
def SeenOf (A B : Option Addr) (ca cb : Nat) (l : List Ent) (t : List Tomb) (ok : Int → Prop) (f : ByteArray → Int → ByteArray × Bool) (w : World) : Prop :=
  ∀ (key : ByteArray) (q : Int) (W : World), ok q → Below w.heap.size w W → Calls Try.prog 14 #[.slice A l.length ca, .slice B t.length cb, .string key, .int .u64 q] W fun e w' => e = .returned (.tuple #[.string (f key q).1, .bool (f key q).2]) ∧ Below W.heap.size W w'
set_option maxHeartbeats 8000000 in
set_option maxRecDepth 100000 in
theorem unseen_any (Al At As Ab Ae Ao : Option Addr) (cl ct cs cb ce co : Nat) (l : List Ent) (t : List Tomb) (sn : List Int) (bl : List File) (oe : List Ent) (ot : List Tomb) (w : World)
    (hl : Rds Ent.enc 4 w Al l) (ht : Rds Tomb.enc 3 w At t) (hs : Rds (en1 (Value.int .u64)) 1 w As sn) (hb : Rds File.enc 6 w Ab bl) (he : Rds Ent.enc 4 w Ae oe) (ho : Rds Tomb.enc 3 w Ao ot)
    (hul : ∀ x ∈ l, InU x.seq) (hut : ∀ x ∈ t, InU x.seq) (hue : ∀ x ∈ oe, InU x.seq)
    (ml : l.length ≤ 1048576) (mt : t.length ≤ 1048576) (ms : sn.length ≤ 1048576) (mb : bl.length ≤ 1048576) (me : oe.length ≤ 1048576) (mo : ot.length ≤ 1048576) :
    Calls Try.prog 4 #[.agg #[.slice Al l.length cl, .slice At t.length ct], .agg #[.slice As sn.length cs, .slice Ab bl.length cb], .agg #[.slice Ae oe.length ce, .slice Ao ot.length co]] w fun e w' => e = .returned (.bool true) ∧ Below w.heap.size w w' := by
  obtain ⟨iT, hiT, zT0, zT1, zT2⟩ := info_parts infoT
  obtain ⟨iE, hiE, zE0, zE1, zE2⟩ := info_parts infoE'
  obtain ⟨iU, hiU, zU0, zU1, zU2⟩ := info_parts infoU
  have HL := Lib.hid hl
  have HT := Lib.hid ht
  have HS := Lib.hid hs
  have HBL := Lib.hid hb
  have HOE := Lib.hid he
  have HOT := Lib.hid ho
  have HUL := Lib.hid hul
  have HUT := Lib.hid hut
  have HUE := Lib.hid hue
  clear hl ht hs hb he ho hul hut hue
  go_enter Try.func4, Try.ntmps4
  go_wp2_with fail
  refine (probe_any _).mono ?_
  rintro e w1 ⟨rfl, hB1⟩
  have HB1 : Aside (Below w.heap.size w w1) := ((((Below.refl _ _).alloc (Nat.le_refl _) _).alloc (by simp) _).alloc (by simp; try omega) _).next hB1
  have hz1 : w.heap.size + 3 ≤ w1.heap.size := by have := hB1.size; simp at this; omega
  have b0 : w1.cell? ⟨w.heap.size, 0, none⟩ = some (.slice Al l.length cl) := by
    have h := hB1.cell (p := ⟨w.heap.size, 0, none⟩) (by simp; try omega)
    rw [h]
    first | (simp; done) | exact Lib.cell?_alloc_some _ (by simp) | exact Lib.cell?_alloc_some _ (Lib.cell?_alloc_some _ (by simp)) | (rw [World.cell?_alloc_at (hn := by simp)]; rfl)
  have b1 : w1.cell? ⟨w.heap.size, 1, none⟩ = some (.slice At t.length ct) := by
    have h := hB1.cell (p := ⟨w.heap.size, 1, none⟩) (by simp; try omega)
    rw [h]
    first | (simp; done) | exact Lib.cell?_alloc_some _ (by simp) | exact Lib.cell?_alloc_some _ (Lib.cell?_alloc_some _ (by simp)) | (rw [World.cell?_alloc_at (hn := by simp)]; rfl)
  have b2 : w1.cell? ⟨w.heap.size + 1, 0, none⟩ = some (.slice As sn.length cs) := by
    have h := hB1.cell (p := ⟨w.heap.size + 1, 0, none⟩) (by simp; try omega)
    rw [h]
    first | (simp; done) | exact Lib.cell?_alloc_some _ (by simp) | exact Lib.cell?_alloc_some _ (Lib.cell?_alloc_some _ (by simp)) | (rw [World.cell?_alloc_at (hn := by simp)]; rfl)
  have b3 : w1.cell? ⟨w.heap.size + 1, 1, none⟩ = some (.slice Ab bl.length cb) := by
    have h := hB1.cell (p := ⟨w.heap.size + 1, 1, none⟩) (by simp; try omega)
    rw [h]
    first | (simp; done) | exact Lib.cell?_alloc_some _ (by simp) | exact Lib.cell?_alloc_some _ (Lib.cell?_alloc_some _ (by simp)) | (rw [World.cell?_alloc_at (hn := by simp)]; rfl)
  have b4 : w1.cell? ⟨w.heap.size + 1 + 1, 0, none⟩ = some (.slice Ae oe.length ce) := by
    have h := hB1.cell (p := ⟨w.heap.size + 1 + 1, 0, none⟩) (by simp; try omega)
    rw [h]
    first | (simp; done) | exact Lib.cell?_alloc_some _ (by simp) | exact Lib.cell?_alloc_some _ (Lib.cell?_alloc_some _ (by simp)) | (rw [World.cell?_alloc_at (hn := by simp)]; rfl)
  have b5 : w1.cell? ⟨w.heap.size + 1 + 1, 1, none⟩ = some (.slice Ao ot.length co) := by
    have h := hB1.cell (p := ⟨w.heap.size + 1 + 1, 1, none⟩) (by simp; try omega)
    rw [h]
    first | (simp; done) | exact Lib.cell?_alloc_some _ (by simp) | exact Lib.cell?_alloc_some _ (Lib.cell?_alloc_some _ (by simp)) | (rw [World.cell?_alloc_at (hn := by simp)]; rfl)
  have HZ1 := Lib.hid hz1
  clear hB1 hz1
  have HR := Lib.hid (rule_any As Ab cs cb sn bl w1.drew ((HS.out.below HB1.out).below (Below.refl _ _).drew) ((HBL.out.below HB1.out).below (Below.refl _ _).drew) (by omega) (by omega))
  go_wp2_with fail
  go_region_held3 (fun w' => w'.cell? ⟨w.heap.size, 0, none⟩ = some (.slice Al l.length cl) ∧ w'.cell? ⟨w.heap.size, 1, none⟩ = some (.slice At t.length ct) ∧ w'.cell? ⟨w.heap.size + 1, 0, none⟩ = some (.slice As sn.length cs) ∧ w'.cell? ⟨w.heap.size + 1, 1, none⟩ = some (.slice Ab bl.length cb)) (go_keep)
    (first
      | (go_at_call 8; refine HR.out.mono ?_; rintro e w2 ⟨r1, r2, rfl, ho1, ho2, hB2⟩
         have hB12 : Below w1.heap.size w1 w2 := (Below.refl _ _).drew.next hB2
         have HC := Lib.hid (entries_kept Al At cl ct r1 r2 l t sn bl w1.drew.heap.size w2 (HL.out.below (HB1.out.trans (hB12.mono (by have := HZ1.out; omega)))) (HT.out.below (HB1.out.trans (hB12.mono (by have := HZ1.out; omega)))) ho1 ho2 (by omega) (by omega) (by omega) (by omega))
         have z0 : w2.cell? ⟨w.heap.size, 0, none⟩ = some (.slice Al l.length cl) := (hB12.cell (p := ⟨w.heap.size, 0, none⟩) (by have := HZ1.out; simp; omega)).trans b0
         have z1 : w2.cell? ⟨w.heap.size, 1, none⟩ = some (.slice At t.length ct) := (hB12.cell (p := ⟨w.heap.size, 1, none⟩) (by have := HZ1.out; simp; omega)).trans b1
         have z2 : w2.cell? ⟨w.heap.size + 1, 0, none⟩ = some (.slice As sn.length cs) := (hB12.cell (p := ⟨w.heap.size + 1, 0, none⟩) (by have := HZ1.out; simp; omega)).trans b2
         have z3 : w2.cell? ⟨w.heap.size + 1, 1, none⟩ = some (.slice Ab bl.length cb) := (hB12.cell (p := ⟨w.heap.size + 1, 1, none⟩) (by have := HZ1.out; simp; omega)).trans b3
         have HB12 := Lib.hid hB12
         clear ho1 ho2 hB2 hB12)
      | (go_at_call 7; refine HC.out.mono ?_; rintro e w3 ⟨S, A3, k3, A4, k4, rfl, hS, hx, hy, hB3⟩
         have hB13 : Below w1.heap.size w1 w3 := HB12.out.next hB3
         have z0 : w3.cell? ⟨w.heap.size, 0, none⟩ = some (.slice Al l.length cl) := (hB13.cell (p := ⟨w.heap.size, 0, none⟩) (by have := HZ1.out; simp; omega)).trans b0
         have z1 : w3.cell? ⟨w.heap.size, 1, none⟩ = some (.slice At t.length ct) := (hB13.cell (p := ⟨w.heap.size, 1, none⟩) (by have := HZ1.out; simp; omega)).trans b1
         have z2 : w3.cell? ⟨w.heap.size + 1, 0, none⟩ = some (.slice As sn.length cs) := (hB13.cell (p := ⟨w.heap.size + 1, 0, none⟩) (by have := HZ1.out; simp; omega)).trans b2
         have z3 : w3.cell? ⟨w.heap.size + 1, 1, none⟩ = some (.slice Ab bl.length cb) := (hB13.cell (p := ⟨w.heap.size + 1, 1, none⟩) (by have := HZ1.out; simp; omega)).trans b3
         have HSx := Lib.hid hS
         have HX := Lib.hid hx
         have HY := Lib.hid hy
         have HB13 := Lib.hid hB13
         clear hS hx hy hB3 hB13))
  have hB3 := HB13.out
  have y4 : w3.cell? ⟨w.heap.size + 1 + 1, 0, none⟩ = some (.slice Ae oe.length ce) := (hB3.cell (p := ⟨w.heap.size + 1 + 1, 0, none⟩) (by have := HZ1.out; simp; omega)).trans b4
  have y5 : w3.cell? ⟨w.heap.size + 1 + 1, 1, none⟩ = some (.slice Ao ot.length co) := (hB3.cell (p := ⟨w.heap.size + 1 + 1, 1, none⟩) (by have := HZ1.out; simp; omega)).trans b5
  have HB3 : Aside (Below w.heap.size w w3) := HB1.out.trans (hB3.mono (by have := HZ1.out; omega))
  have HZ3 := Lib.hid (show w.heap.size + 3 ≤ w3.heap.size by have := HZ1.out; have := hB3.size; omega)
  have HCO := Lib.hid (older_any As Ab Ae Ao Al At cs cb ce co cl ct sn bl oe ot l t w3 (HBL.out.below HB3.out) (HOE.out.below HB3.out) (HOT.out.below HB3.out) (HL.out.below HB3.out) (HT.out.below HB3.out) (by omega) (by omega) (by omega) (by omega) (by omega))
  have HB13' := Lib.hid hB3
  clear hB3
  go_wp2_with fail
  refine HCO.out.mono ?_
  rintro e w4 ⟨v9, v10, rfl, ho9, ho10, hB4⟩
  obtain ⟨A9, k9, rfl, -, -, hr9, -⟩ := Own.rds Ent.enc_len ho9
  obtain ⟨A10, k10, rfl, -, -, hr10, -⟩ := Own.rds Tomb.enc_len ho10
  have hlb : (oldE bl (leastS l t) oe).length ≤ 1048576 := Nat.le_trans (List.length_filter_le _ _) me
  have hld : (oldT (leastS l t) ot).length ≤ 1048576 := Nat.le_trans (List.length_filter_le _ _) mo
  have hlx : (keptE S bl t l).length ≤ l.length := keptE_len' S bl t l
  have hly : (keptT S bl t).length ≤ t.length := keptT_len' S bl t
  have HR9 := Lib.hid hr9
  have HR10 := Lib.hid hr10
  have HX4 := Lib.hid (HX.out.below hB4)
  have HY4 := Lib.hid (HY.out.below hB4)
  have HB4 : Aside (Below w.heap.size w w4) := HB3.out.trans (hB4.mono (by have := HZ3.out; omega))
  have hB14 : Below w1.heap.size w1 w4 := HB13'.out.next hB4
  have HZ4 := Lib.hid (show w.heap.size + 3 ≤ w4.heap.size by have := HZ3.out; have := hB4.size; omega)
  have q0 : w4.cell? ⟨w.heap.size, 0, none⟩ = some (.slice Al l.length cl) := (hB14.cell (p := ⟨w.heap.size, 0, none⟩) (by have := HZ1.out; simp; omega)).trans b0
  have q1 : w4.cell? ⟨w.heap.size, 1, none⟩ = some (.slice At t.length ct) := (hB14.cell (p := ⟨w.heap.size, 1, none⟩) (by have := HZ1.out; simp; omega)).trans b1
  have q2 : w4.cell? ⟨w.heap.size + 1, 0, none⟩ = some (.slice As sn.length cs) := (hB14.cell (p := ⟨w.heap.size + 1, 0, none⟩) (by have := HZ1.out; simp; omega)).trans b2
  have HQ := Lib.hid (And.intro q0 (And.intro q1 q2))
  clear ho9 ho10 hr9 hr10 hB4 hB14 HCO HX HY HB13 HB13' HB3 HB1 y4 y5 z0 z1 z2 z3 b0 b1 b2 b3 b4 b5 HZ3 HR HC q1 q2
  have q0' : ∀ o, (w4.alloc o).cell? ⟨w.heap.size, 0, none⟩ = some (.slice Al l.length cl) := fun o => Lib.cell?_alloc_some _ q0
  go_wp2_with (at_builtin; refine wpList_append_all Ent.enc_len Ent.enc_one rfl _ _ 22 rfl w4.heap.size 48 iE (.agg #[.string ByteArray.empty, .int .u64 0, .int .i64 0, .string ByteArray.empty]) 48 Try.underlying22 hiE zE0 zE1 zE2 rfl (by decide) _ [] rfl (Own.lit (Nat.le_refl _) (heap_alloc_new _ _)) Al cl (l) rfl ((HL.out.below HB4.out).below ((Below.refl _ _).alloc (Nat.le_refl _) _)) (by first | (unfold maxLen; omega) | (unfold maxLen; simp; omega)) (by first | omega | (simp; omega)) (by simp) ?_)
  intro va wa ho hg _
  have HOa : Aside (Own Ent.enc 4 48 wa w4.heap.size va (l)) := ho
  have HBa : Aside (Below w4.heap.size w4 wa) := ((Below.refl _ _).alloc (Nat.le_refl _) _).grown hg (by simp) (fun b e => by obtain rfl := Option.some.inj e; exact Nat.le_refl _)
  clear ho hg
  go_wp2_with (at_builtin; refine wpList_append_all Ent.enc_len Ent.enc_one rfl _ _ 22 rfl w4.heap.size 48 iE (.agg #[.string ByteArray.empty, .int .u64 0, .int .i64 0, .string ByteArray.empty]) 48 Try.underlying22 hiE zE0 zE1 zE2 rfl (by decide) va (l) rfl HOa.out A9 k9 (oldE bl (leastS l t) oe) rfl ((HR9.out).below HBa.out) (by first | (unfold maxLen; omega) | (unfold maxLen; simp; omega)) (by first | omega | (simp; omega)) HBa.out.size ?_)
  intro vb w5 ho hg _
  obtain ⟨A5, k5, rfl, hcap5, -, hr5, -⟩ := Own.rds Ent.enc_len ho
  have hll5 : (l ++ oldE bl (leastS l t) oe).length ≤ 2097152 := by rw [List.length_append]; omega
  have HB5 : Aside (Below w4.heap.size w4 w5) := HBa.out.grown hg HBa.out.size (fun b e => (HOa.out.block_lt e).1)
  have HR5 := Lib.hid hr5
  clear ho hg hr5 HOa HBa
  generalize hls5 : l ++ oldE bl (leastS l t) oe = ls5 at HR5 hcap5 hll5 ⊢
  have HLS5 := Lib.hid hls5
  clear hls5
  clear q0 q0'
  have HC5 : Aside (Below w4.heap.size w4 w5) := HB5.out
  go_wp2_with (at_builtin; refine wpList_append_all Ent.enc_len Ent.enc_one rfl _ _ 22 rfl w5.heap.size 48 iE (.agg #[.string ByteArray.empty, .int .u64 0, .int .i64 0, .string ByteArray.empty]) 48 Try.underlying22 hiE zE0 zE1 zE2 rfl (by decide) _ [] rfl (Own.lit (Nat.le_refl _) (heap_alloc_new _ _)) A3 k3 (keptE S bl t l) rfl ((HX4.out.below HC5.out).below ((Below.refl _ _).alloc (Nat.le_refl _) _)) (by first | (unfold maxLen; omega) | (unfold maxLen; simp; omega)) (by first | omega | (simp; omega)) (by simp) ?_)
  intro va wa ho hg _
  have HOa : Aside (Own Ent.enc 4 48 wa w5.heap.size va (keptE S bl t l)) := ho
  have HBa : Aside (Below w5.heap.size w5 wa) := ((Below.refl _ _).alloc (Nat.le_refl _) _).grown hg (by simp) (fun b e => by obtain rfl := Option.some.inj e; exact Nat.le_refl _)
  clear ho hg
  go_wp2_with (at_builtin; refine wpList_append_all Ent.enc_len Ent.enc_one rfl _ _ 22 rfl w5.heap.size 48 iE (.agg #[.string ByteArray.empty, .int .u64 0, .int .i64 0, .string ByteArray.empty]) 48 Try.underlying22 hiE zE0 zE1 zE2 rfl (by decide) va (keptE S bl t l) rfl HOa.out A9 k9 (oldE bl (leastS l t) oe) rfl ((HR9.out.below HC5.out).below HBa.out) (by first | (unfold maxLen; omega) | (unfold maxLen; simp; omega)) (by first | omega | (simp; omega)) HBa.out.size ?_)
  intro vb w6 ho hg _
  obtain ⟨A6, k6, rfl, hcap6, -, hr6, -⟩ := Own.rds Ent.enc_len ho
  have hll6 : (keptE S bl t l ++ oldE bl (leastS l t) oe).length ≤ 2097152 := by rw [List.length_append]; omega
  have HB6 : Aside (Below w5.heap.size w5 w6) := HBa.out.grown hg HBa.out.size (fun b e => (HOa.out.block_lt e).1)
  have HR6 := Lib.hid hr6
  clear ho hg hr6 HOa HBa
  generalize hls6 : keptE S bl t l ++ oldE bl (leastS l t) oe = ls6 at HR6 hcap6 hll6 ⊢
  have HLS6 := Lib.hid hls6
  clear hls6
  have HC6 : Aside (Below w4.heap.size w4 w6) := HC5.out.next HB6.out
  have p1 : w6.cell? ⟨w.heap.size, 1, none⟩ = some (.slice At t.length ct) := (HC6.out.cell (p := ⟨w.heap.size, 1, none⟩) (by have := HZ4.out; simp; omega)).trans HQ.out.2.1
  have p1' : ∀ o, (w6.alloc o).cell? ⟨w.heap.size, 1, none⟩ = some (.slice At t.length ct) := fun o => Lib.cell?_alloc_some _ p1
  go_wp2_with (at_builtin; refine wpList_append_all Tomb.enc_len Tomb.enc_one rfl _ _ 23 rfl w6.heap.size 38 iT (.agg #[.string ByteArray.empty, .string ByteArray.empty, .int .u64 0]) 40 Try.underlying23 hiT zT0 zT1 zT2 rfl (by decide) _ [] rfl (Own.lit (Nat.le_refl _) (heap_alloc_new _ _)) At ct (t) rfl ((HT.out.below (HB4.out.trans (HC6.out.mono (by have := HZ4.out; omega)))).below ((Below.refl _ _).alloc (Nat.le_refl _) _)) (by first | (unfold maxLen; omega) | (unfold maxLen; simp; omega)) (by first | omega | (simp; omega)) (by simp) ?_)
  intro va wa ho hg _
  have HOa : Aside (Own Tomb.enc 3 38 wa w6.heap.size va (t)) := ho
  have HBa : Aside (Below w6.heap.size w6 wa) := ((Below.refl _ _).alloc (Nat.le_refl _) _).grown hg (by simp) (fun b e => by obtain rfl := Option.some.inj e; exact Nat.le_refl _)
  clear ho hg
  go_wp2_with (at_builtin; refine wpList_append_all Tomb.enc_len Tomb.enc_one rfl _ _ 23 rfl w6.heap.size 38 iT (.agg #[.string ByteArray.empty, .string ByteArray.empty, .int .u64 0]) 40 Try.underlying23 hiT zT0 zT1 zT2 rfl (by decide) va (t) rfl HOa.out A10 k10 (oldT (leastS l t) ot) rfl ((HR10.out.below HC6.out).below HBa.out) (by first | (unfold maxLen; omega) | (unfold maxLen; simp; omega)) (by first | omega | (simp; omega)) HBa.out.size ?_)
  intro vb w7 ho hg _
  obtain ⟨A7, k7, rfl, hcap7, -, hr7, -⟩ := Own.rds Tomb.enc_len ho
  have hll7 : (t ++ oldT (leastS l t) ot).length ≤ 2097152 := by rw [List.length_append]; omega
  have HB7 : Aside (Below w6.heap.size w6 w7) := HBa.out.grown hg HBa.out.size (fun b e => (HOa.out.block_lt e).1)
  have HR7 := Lib.hid hr7
  clear ho hg hr7 HOa HBa
  generalize hls7 : t ++ oldT (leastS l t) ot = ls7 at HR7 hcap7 hll7 ⊢
  have HLS7 := Lib.hid hls7
  clear hls7
  clear p1 p1'
  have HC7 : Aside (Below w4.heap.size w4 w7) := HC6.out.next HB7.out
  go_wp2_with (at_builtin; refine wpList_append_all Tomb.enc_len Tomb.enc_one rfl _ _ 23 rfl w7.heap.size 38 iT (.agg #[.string ByteArray.empty, .string ByteArray.empty, .int .u64 0]) 40 Try.underlying23 hiT zT0 zT1 zT2 rfl (by decide) _ [] rfl (Own.lit (Nat.le_refl _) (heap_alloc_new _ _)) A4 k4 (keptT S bl t) rfl ((HY4.out.below HC7.out).below ((Below.refl _ _).alloc (Nat.le_refl _) _)) (by first | (unfold maxLen; omega) | (unfold maxLen; simp; omega)) (by first | omega | (simp; omega)) (by simp) ?_)
  intro va wa ho hg _
  have HOa : Aside (Own Tomb.enc 3 38 wa w7.heap.size va (keptT S bl t)) := ho
  have HBa : Aside (Below w7.heap.size w7 wa) := ((Below.refl _ _).alloc (Nat.le_refl _) _).grown hg (by simp) (fun b e => by obtain rfl := Option.some.inj e; exact Nat.le_refl _)
  clear ho hg
  go_wp2_with (at_builtin; refine wpList_append_all Tomb.enc_len Tomb.enc_one rfl _ _ 23 rfl w7.heap.size 38 iT (.agg #[.string ByteArray.empty, .string ByteArray.empty, .int .u64 0]) 40 Try.underlying23 hiT zT0 zT1 zT2 rfl (by decide) va (keptT S bl t) rfl HOa.out A10 k10 (oldT (leastS l t) ot) rfl ((HR10.out.below HC7.out).below HBa.out) (by first | (unfold maxLen; omega) | (unfold maxLen; simp; omega)) (by first | omega | (simp; omega)) HBa.out.size ?_)
  intro vb w8 ho hg _
  obtain ⟨A8, k8, rfl, hcap8, -, hr8, -⟩ := Own.rds Tomb.enc_len ho
  have hll8 : (keptT S bl t ++ oldT (leastS l t) ot).length ≤ 2097152 := by rw [List.length_append]; omega
  have HB8 : Aside (Below w7.heap.size w7 w8) := HBa.out.grown hg HBa.out.size (fun b e => (HOa.out.block_lt e).1)
  have HR8 := Lib.hid hr8
  clear ho hg hr8 HOa HBa
  generalize hls8 : keptT S bl t ++ oldT (leastS l t) ot = ls8 at HR8 hcap8 hll8 ⊢
  have HLS8 := Lib.hid hls8
  clear hls8
  have HC8 : Aside (Below w4.heap.size w4 w8) := HC7.out.next HB8.out
  have p1 : w8.cell? ⟨w.heap.size + 1, 0, none⟩ = some (.slice As sn.length cs) := (HC8.out.cell (p := ⟨w.heap.size + 1, 0, none⟩) (by have := HZ4.out; simp; omega)).trans HQ.out.2.2
  have p1' : ∀ o, (w8.alloc o).cell? ⟨w.heap.size + 1, 0, none⟩ = some (.slice As sn.length cs) := fun o => Lib.cell?_alloc_some _ p1
  go_wp2_with (at_builtin; refine wpList_append_all (en1_len _) en1_one rfl _ _ 24 rfl w8.heap.size 36 iU (.int .u64 0) 8 Try.underlying24 hiU zU0 zU1 zU2 rfl (by decide) _ [] rfl (Own.lit (Nat.le_refl _) (heap_alloc_new _ _)) As cs sn rfl ((HS.out.below (HB4.out.trans (HC8.out.mono (by have := HZ4.out; omega)))).below ((Below.refl _ _).alloc (Nat.le_refl _) _)) (by first | (unfold maxLen; omega) | (unfold maxLen; simp; omega)) (by first | omega | (simp; omega)) (by simp) ?_)
  intro va wa ho hg _
  have HOa : Aside (Own (en1 (Value.int .u64)) 1 36 wa w8.heap.size va sn) := ho
  have HBa : Aside (Below w8.heap.size w8 wa) := ((Below.refl _ _).alloc (Nat.le_refl _) _).grown hg (by simp) (fun b e => by obtain rfl := Option.some.inj e; exact Nat.le_refl _)
  clear ho hg
  go_wp2_with (at_builtin; refine wpList_append_all (en1_len _) en1_one rfl _ _ 24 rfl w8.heap.size 36 iU (.int .u64 0) 8 Try.underlying24 hiU zU0 zU1 zU2 rfl (by decide) va sn rfl (World.ownsRow.alloc HOa.out _) (some ⟨wa.heap.size, 0, none⟩) 1 [18446744073709551615] rfl (Rds.lit1 wa 18446744073709551615) (by first | (unfold maxLen; omega) | (unfold maxLen; simp; omega)) (by first | omega | (simp; omega)) (by have := HBa.out.size; simp; omega) ?_)
  intro vb w9 ho hg _
  obtain ⟨A15, k15, rfl, -, -, hr15, -⟩ := Own.rds (en1_len _) ho
  have hll15 : (sn ++ [(18446744073709551615 : Int)]).length ≤ 2097152 := by rw [List.length_append]; simp; omega
  have HB9 : Aside (Below w8.heap.size w8 w9) := (HBa.out.alloc HBa.out.size _).grown hg (by have := HBa.out.size; simp; omega) (fun b e => (HOa.out.block_lt e).1)
  have HR15 := Lib.hid hr15
  clear ho hg hr15 HOa HBa p1 p1'
  generalize hls15 : sn ++ [(18446744073709551615 : Int)] = ls15 at HR15 hll15 ⊢
  have HLS15 := Lib.hid hls15
  clear hls15
  have HC9 : Aside (Below w4.heap.size w4 w9) := HC8.out.next HB9.out
  go_wp2_with fail
  have HLaw := Lib.hid (show ∀ key q, q ∈ ls15 → seenS ls6 ls8 key q = seenS ls5 ls7 key q from fun key q hq => by
    rw [← HLS5.out, ← HLS6.out, ← HLS7.out, ← HLS8.out]
    rw [← HLS15.out] at hq
    refine (unseen HSx.out HUL.out HUT.out ?_ ?_ ?_ ?_).symm
    · intro e he
      obtain ⟨h1, h2⟩ := List.mem_filter.1 he
      rw [Bool.and_eq_true] at h2
      exact ⟨HUE.out e h1, h2.2⟩
    · intro e he a ha
      obtain ⟨h1, h2⟩ := List.mem_filter.1 he
      rw [Bool.and_eq_true, decide_eq_true_eq] at h2
      exact Int.lt_of_lt_of_le h2.1 (least_l a ha)
    · intro e he a ha
      obtain ⟨h1, h2⟩ := List.mem_filter.1 he
      rw [decide_eq_true_eq] at h2
      exact Int.lt_of_lt_of_le h2 (least_l a ha)
    · rcases List.mem_append.1 hq with h | h
      · exact .inl h
      · exact .inr (by simpa using h))
  have HW5 := Lib.hid (HR5.out.below (HB6.out.next (HB7.out.next (HB8.out.next HB9.out))))
  have HW6 := Lib.hid (HR6.out.below (HB7.out.next (HB8.out.next HB9.out)))
  have HW7 := Lib.hid (HR7.out.below (HB8.out.next HB9.out))
  have HW8 := Lib.hid (HR8.out.below HB9.out)
  have HWW : Aside (Below w.heap.size w w9) := HB4.out.trans (HC9.out.mono (by have := HZ4.out; omega))
  have HQ9 := Lib.hid (show w9.cell? ⟨w.heap.size, 0, none⟩ = some (.slice Al l.length cl) ∧ w9.cell? ⟨w.heap.size, 1, none⟩ = some (.slice At t.length ct) ∧ w.heap.size < w9.heap.size from
    ⟨(HC9.out.cell (p := ⟨w.heap.size, 0, none⟩) (by have := HZ4.out; simp; omega)).trans HQ.out.1, (HC9.out.cell (p := ⟨w.heap.size, 1, none⟩) (by have := HZ4.out; simp; omega)).trans HQ.out.2.1, by have := HZ4.out; have := HC9.out.size; omega⟩)
  have HCAP := Lib.hid (And.intro hcap7 hcap8)
  clear HR5 HR6 HR7 HR8 HB5 HB6 HB7 HB8 HB9 HC5 HC6 HC7 HC8 HC9 HQ HZ4 HB4 HLS5 HLS6 HLS7 HLS8 HLS15 HSx HUL HUT HUE HX4 HY4 HR9 HR10 HL HT HS HBL HOE HOT hcap5 hcap6 hcap7 hcap8 hlb hld
  go_loopg [16, 17, 18, 19, 20, 21] ls5.length (fun k s16 s17 s18 s19 s20 s21 wr => ∃ i : Nat, s16 = .int .i64 i ∧ i ≤ ls5.length ∧ ls5.length - i ≤ k ∧ Aside (Below w9.heap.size w9 wr))
  case atStart => exact ⟨0, rfl, Nat.zero_le _, Nat.le_refl _, (show Aside _ from Below.refl _ _)⟩
  case round =>
    obtain ⟨i, rfl, hi, hk, HBr⟩ := hrel
    rename World => wa
    by_cases hlt : i < ls5.length
    · have hltz : (i : Int) < (ls5.length : Int) := by omega
      have hi0 : (0 : Int) ≤ (i : Int) := by omega
      obtain ⟨x, hx⟩ : ∃ x, ls5[i]? = some x := ⟨ls5[i], List.getElem?_eq_getElem hlt⟩
      have HXi := Lib.hid hx
      clear hx
      go_wp2_with fail
      go_loopg [17, 18, 19, 20, 21] ls15.length (fun k s17 s18 s19 s20 s21 wr => ∃ m : Nat, s17 = .int .i64 m ∧ m ≤ ls15.length ∧ ls15.length - m ≤ k ∧ Aside (Below w9.heap.size w9 wr))
      case atStart => exact ⟨0, rfl, Nat.zero_le _, Nat.le_refl _, HBr⟩
      case round =>
        obtain ⟨m, rfl, hm, hkm, HBz⟩ := hrel
        rename World => wz
        by_cases hltm : m < ls15.length
        · have hltmz : (m : Int) < (ls15.length : Int) := by omega
          have hm0 : (0 : Int) ≤ (m : Int) := by omega
          obtain ⟨q, hq⟩ : ∃ q, ls15[m]? = some q := ⟨ls15[m], List.getElem?_eq_getElem hltm⟩
          obtain ⟨al, rfl, c0, -⟩ := Rds.at4 (HW5.out.below HBz.out) HXi.out rfl
          obtain ⟨aq, rfl, g0⟩ := Rds.at1 (HR15.out.below HBz.out) hq rfl
          have HC1 := Lib.hid (fun (W : World) (h : Below w9.heap.size w9 W) => seen_any (some al) A7 k5 k7 ls5 ls7 x.key q W (HW5.out.below h) (HW7.out.below h) HCAP.out.1 (by omega) (by omega))
          have HC2 := Lib.hid (fun (W : World) (h : Below w9.heap.size w9 W) => seen_any A6 A8 k6 k8 ls6 ls8 x.key q W (HW6.out.below h) (HW8.out.below h) HCAP.out.2 (by omega) (by omega))
          rw [HLaw.out x.key q (List.mem_of_getElem? hq)] at HC2
          clear hq
          generalize seenS ls5 ls7 x.key q = sv at HC1 HC2
          obtain ⟨sv1, sv2⟩ := sv
          go_wp2_with fail
          go_region_held3 (fun w' => w'.cell? (al.add (i * 4)) = some (.string x.key) ∧ w'.cell? (aq.add m) = some (.int .u64 q)) (go_keep)
            (first
              | (go_at_call 14; refine (HC1.out _ HBz.out.drew).mono ?_; rintro e w' ⟨rfl, hB⟩
                 have z0 : w'.cell? (al.add (i * 4)) = some (.string x.key) := cell_below hB c0
                 have z1 : w'.cell? (aq.add m) = some (.int .u64 q) := cell_below hB g0
                 have HBn := Lib.hid hB
                 clear hB))
          rename World => wb
          have HBb : Aside (Below w9.heap.size w9 wb) := (HBz.out.drew).next HBn.out
          clear HBn HBz c0 g0 HC1
          go_wp2_with fail
          go_region_held3 (fun w' => w'.cell? (al.add (i * 4)) = some (.string x.key) ∧ w'.cell? (aq.add m) = some (.int .u64 q)) (go_keep)
            (first
              | (go_at_call 14; refine (HC2.out _ HBb.out.drew).mono ?_; rintro e w' ⟨rfl, hB⟩
                 have y0 : w'.cell? (al.add (i * 4)) = some (.string x.key) := cell_below hB z0
                 have y1 : w'.cell? (aq.add m) = some (.int .u64 q) := cell_below hB z1
                 have HBn := Lib.hid hB
                 clear hB))
          rename World => wc
          have HBc : Aside (Below w9.heap.size w9 wc) := (HBb.out.drew).next HBn.out
          clear HBn HBb z0 z1 y0 y1 HC2
          cases sv2 with
          | true =>
            go_wp2_with fail
            go_roundg (ls15.length - (m + 1))
            case measure => omega
            case rel => exact ⟨m + 1, by go_num, by omega, Nat.le_refl _, HBc⟩
          | false =>
            go_wp2_with fail
            go_roundg (ls15.length - (m + 1))
            case measure => omega
            case rel => exact ⟨m + 1, by go_num, by omega, Nat.le_refl _, HBc⟩
        · have hltmz : ¬ (m : Int) < (ls15.length : Int) := by omega
          go_wp2_with fail
          go_roundg (ls5.length - (i + 1))
          case measure => omega
          case rel => exact ⟨i + 1, by go_num, by omega, Nat.le_refl _, HBz⟩
    · have hltz : ¬ (i : Int) < (ls5.length : Int) := by omega
      have p0 : wa.cell? ⟨w.heap.size, 0, none⟩ = some (.slice Al l.length cl) := (HBr.out.cell (p := ⟨w.heap.size, 0, none⟩) HQ9.out.2.2).trans HQ9.out.1
      have p1 : wa.cell? ⟨w.heap.size, 1, none⟩ = some (.slice At t.length ct) := (HBr.out.cell (p := ⟨w.heap.size, 1, none⟩) HQ9.out.2.2).trans HQ9.out.2.1
      have e1 : decide (((keptE S bl t l).length : Int) ≤ (l.length : Int)) = true := decide_eq_true (by omega)
      have e2 : decide (((keptT S bl t).length : Int) ≤ (t.length : Int)) = true := decide_eq_true (by omega)
      have HBf := Lib.hid (HWW.out.trans (HBr.out.mono (by have := HQ9.out.2.2; omega)))
      go_wp2_with fail
      go_ret
      exact ⟨rfl, HBf.out⟩
end Go.Proofs.Ytjiijddlbfgafaa
