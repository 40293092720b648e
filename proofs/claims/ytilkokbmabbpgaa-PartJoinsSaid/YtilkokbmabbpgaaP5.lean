/- The law PartJoins. -/
import Derived.Test.YtilkokbmabbpgaaP4
set_option linter.unusedVariables false
set_option linter.unusedSimpArgs false
set_option maxRecDepth 100000
namespace Go.Proofs.Ytilkokbmabbpgaa.Ab
open Go

theorem un_bool : Try.prog.underlying 4 = some .bool := by kernel_rfl
theorem eql_bool {a b : Bool} {h : KH} : binO Try.prog .eql 4 (.bool a) (.bool b) h = .ok (.bool (a == b)) h := by
  simp only [binO, binK, eqK_at, un_bool]
  cases a <;> cases b <;> rfl
theorem neq_bool {a b : Bool} {h : KH} : binO Try.prog .neq 4 (.bool a) (.bool b) h = .ok (.bool (!(a == b))) h := by
  simp only [binO, binK, eqK_at, un_bool]
  cases a <;> cases b <;> rfl

theorem wakes_w {H : AHeap} : FnW Try.prog 10 #[] H (fun w H' => Old H H' ∧ w = .bool true) := by
  refine fw_10 (Nat.le_refl _) fun hf => ?_
  simp only [Try.f10, Option.getD_some]
  simp only [go_sem]
  refine Cll.by (new_w (n := 3) (by decide)) ?_
  rintro v1 H1 - ⟨hold1, q, f1, hq, hs1, ho1⟩
  simp only [go_sem, build_two]
  have hql := hq.1
  have hs1' := hs1.keep (H' := H1.push ⟨[.int .i64 0, .int .i64 2], 3, false, false⟩) fun y hy => get_push_lt (ho1.hi y hy)
  refine Cll.by (join_w hs1' (fun y hy => Nat.lt_succ_of_lt (ho1.hi y hy)) (sl_push (xs := [0, 2]) (by simp)) (by simp [next_push]) hq.cls (by intro z hz; simp only [List.mem_cons, List.not_mem_nil, or_false] at hz; rcases hz with rfl | rfl <;> omega) (by omega) (by decide)) ?_
  rintro _ H2 - ⟨hold2, v2, b2, q2, f2, rfl, hb2, hj, hs2, ho2⟩
  have hqa : ∀ j, j < 3 → q.getD j 0 = (j : Int) := hq.2
  have q0 := hqa 0 (by decide)
  have q1 := hqa 1 (by decide)
  have q22 := hqa 2 (by decide)
  have hgood : Good q [0, 2] 2 := by
    intro a ha k hk
    obtain rfl : a = 1 := by omega
    obtain rfl : k = 0 := by omega
    show q.getD 2 0 ≠ q.getD 0 0
    rw [q22, q0]; decide
  obtain rfl := hb2.2 hgood
  simp only [go_sem, build_three]
  have hs2' := hs2.keep (H' := H2.push ⟨[.int .i64 0, .int .i64 1, .int .i64 0], 3, false, false⟩) fun y hy => get_push_lt (ho2.hi y hy)
  have hjl := hj.len
  refine Cll.by (same_w hs2' (sl_push (xs := [0, 1, 0]) (by simp)) (by omega)) ?_
  rintro _ _ - ⟨⟨b3, rfl, hb3⟩, rfl⟩
  have eqs : q2 = [0, 1, 0] := by
    have e3 : q2.length = 3 := by omega
    have c0 := hj.cls 0 (by omega)
    have c1 := hj.cls 1 (by omega)
    have c2 := hj.cls 2 (by omega)
    have e02 := (hj.eqv 0 2 (by omega) (by omega)).2 (.inr ⟨⟨0, by decide, rfl⟩, ⟨1, by decide, rfl⟩⟩)
    have e01 : ¬ q2.getD 0 0 = q2.getD 1 0 := fun e => by
      rcases (hj.eqv 0 1 (by omega) (by omega)).1 e with h | ⟨_, t, ht, h⟩
      · rw [q0, q1] at h; omega
      · have : t = 0 ∨ t = 1 := by simp at ht; omega
        rcases this with rfl | rfl
        · have h : q.getD 0 0 = q.getD 1 0 := h
          rw [q0, q1] at h; omega
        · have h : q.getD 2 0 = q.getD 1 0 := h
          rw [q22, q1] at h; omega
    match q2, e3 with
    | [a, b, c], _ =>
      simp only [List.getD_cons_zero, List.getD_cons_succ] at c0 c1 c2 e02 e01
      have : a = 0 := by omega
      subst this
      have : c = 0 := by omega
      subst this
      have : b = 1 := by omega
      subst this
      rfl
  obtain rfl := hb3.2 eqs
  simp only [go_sem]
  exact hold1.trans ((Old.push H1 _).trans (hold2.trans (Old.push H2 _)))

/-- Is a thing in a class that is joined? -/
theorem touched_w {H : AHeap} {vp vx : Value} {p x : List Int} {f g : List Nat} {bx bp i : Nat} {Bx Bp : ABlk} (hbx : H.get bx = some Bx) (hcx : Bx.cells[0]? = some vx) (hbp : H.get bp = some Bp) (hcp : Bp.cells[0]? = some vp)
    (h : Sl .int H vp p f) (hg : Sl .int H vx x g) (hin : In x p.length) (hi : i < p.length) (hxl : x.length < 1000000) :
    FnW Try.prog 15 #[.int .i64 (i : Nat), .pointer (some ⟨bx, 0, none⟩), .pointer (some ⟨bp, 0, none⟩)] H (fun r H' => (∃ t, r = .bool t ∧ (t = true ↔ Tch p x x.length i)) ∧ H = H') := by
  refine fw_15 (Nat.le_refl _) fun hf => ?_
  simp only [Try.f15, Option.getD_some]
  obtain ⟨a0, c0, hv0⟩ := h.val
  obtain ⟨a1, c1, hw0⟩ := hg.val
  simp only [go_sem, hbx, hcx, hw0]
  refine w_for 8388176 x.length (fun j V H1 => V 9 = .int .i64 (j : Nat) ∧ H = H1 ∧ ∀ t, t < j → At p x t ≠ p.getD i 0) ⟨by simp only [go_sem]; rfl, rfl, fun t ht => by omega⟩ ?_ ?_ (by rfl)
  · rintro j V H1 hj ⟨e9, rfl, hall⟩
    obtain ⟨b3, o3, c3, B3, hv3, hB3, _, hc3⟩ := hg.int_at hj
    rw [hw0] at hv3
    cases hv3
    have hxi := hin.at hj
    have hx1 : (x.getD j 0).toNat < p.length := by omega
    obtain ⟨b4, o4, c4, B4, hv4, hB4, _, hc4⟩ := h.int_at hx1
    obtain ⟨b5, o5, c5, B5, hv5, hB5, _, hc5⟩ := h.int_at hi
    rw [hv4] at hv5
    cases hv5
    rw [hB4] at hB5
    cases hB5
    by_cases he : p.getD (x.getD j 0).toNat 0 = p.getD i 0
    · simp only [go_sem, e9, hj, hB3, hc3, hbp, hcp, hv4, hxi.1, hx1, hi, hB4, hc4, hc5, he]
      exact ⟨_, rfl, ⟨fun _ => ⟨j, hj, he⟩, fun _ => rfl⟩⟩
    · simp only [go_sem, e9, hj, hB3, hc3, hbp, hcp, hv4, hxi.1, hx1, hi, hB4, hc4, hc5, he, wrap_succ hj (by omega)]
      refine fun t ht => ?_
      by_cases htj : t = j
      · subst htj; exact he
      · exact hall t (by omega)
  · rintro V H1 ⟨e9, rfl, hall⟩
    simp only [go_sem, e9]
    exact ⟨_, rfl, ⟨fun h => (by cases h), fun ⟨t, ht, e⟩ => absurd e (hall t ht)⟩⟩

theorem partJoins_w {H : AHeap} {va vl : Value} {a l : List Int} {fa fl : List Nat} {n : Int} (ha : Sl .int H va a fa) (hfa : ∀ y ∈ fa, y < H.next) (hl : Sl .int H vl l fl) (hfl : ∀ y ∈ fl, y < H.next) : FnW Try.prog 3 #[.int .i64 n, va, vl] H (fun w _ => w = .bool true) := by
  refine fw_3 (Nat.le_refl _) fun hf => ?_
  simp only [Try.f3, Option.getD_some]
  simp only [go_sem]
  refine Cll.by (made_w ha hfa) ?_
  rintro vp H1 - ⟨hold1, p, fp, hpc, hp10, hp1, hop⟩
  obtain ⟨a0, c0, hv0⟩ := hp1.val
  have hX1 : H.fz H1.next = false := hf.fresh hold1.nx
  subst hv0
  simp only [go_sem, hX1]
  by_cases hp0 : p.length = 0
  · have e0 : ((p.length : Nat) : Int) = 0 := by omega
    simp only [go_sem, e0]
    refine Cll.by (new_w (n := 0) (by decide)) ?_
    rintro v2 H2 - ⟨hold2, q, f2, hq, hs2, ho2⟩
    obtain ⟨a2, c2, hv2⟩ := hs2.val
    rw [hq.1] at hv2
    have z0 : (((0 : Nat) : Int) = 0) = True := by simp
    simp only [go_sem, hv2, z0]
    refine Cll.by wakes_w ?_
    rintro _ H3 - ⟨hold3, rfl⟩
    simp only [go_sem]
  · have e0 : ¬ ((p.length : Nat) : Int) = 0 := by omega
    simp only [go_sem, e0]
    have hl2 := hl.keep (H' := (H1.push ⟨[.slice a0 p.length c0], 22, false, false⟩).push ⟨[.slice none 0 0], 22, false, false⟩) fun y hy => by
      have := hfl y hy; have := hold1.nx
      rw [get_push_lt (by rw [next_push]; omega), get_push_lt (by omega)]; exact hold1.get y (hfl y hy)
    refine Cll.by (cut_w (n := 4) hl2 (by decide)) ?_
    rintro vc Hc - ⟨holdc, fc, hsc, hoc⟩
    generalize hlc : l.take 4 = lc at hsc
    have hlc4 : lc.length ≤ 4 := by rw [← hlc]; simp; omega
    obtain ⟨ac, cc, hvc⟩ := hsc.val
    have hcn : H1.next + 2 ≤ Hc.next := holdc.nx
    have g7 : Hc.get H1.next = some ⟨[.slice a0 p.length c0], 22, false, false⟩ := by
      rw [holdc.get _ (by rw [next_push, next_push]; omega), get_push, if_neg (by rw [next_push]; omega), get_push, if_pos rfl]
    have g8 : Hc.get (H1.next + 1) = some ⟨[.slice none 0 0], 22, false, false⟩ := by
      rw [holdc.get _ (by rw [next_push, next_push]; omega), get_push, if_pos (by rw [next_push])]
    have hpc' : Sl .int Hc (.slice a0 p.length c0) p fp := hp1.keep fun y hy => by
      have := hop.hi y hy
      rw [holdc.get y (by rw [next_push, next_push]; omega), get_push_lt (by rw [next_push]; omega), get_push_lt this]
    have hX8 : H.fz (H1.next + 1) = false := hf.fresh (Nat.le_succ_of_le hold1.nx)
    simp only [go_sem, hvc]
    refine w_for 140703128617984 lc.length (fun i V H3 => V 35 = .int .i64 (i : Nat) ∧ ∃ vx x fx, x.length = i ∧ In x p.length ∧ Ow .int 3 H3 vx x fx ∧ Own Hc.next H3 fx ∧ H3.get (H1.next + 1) = some ⟨[vx], 22, false, false⟩ ∧ Hc.next ≤ H3.next ∧ (∀ y, y < Hc.next → y ≠ H1.next + 1 → H3.get y = Hc.get y) ∧ (∀ b B, H3.get b = some B → B.ro = true → Hc.get b = some B))
      ⟨by simp only [go_sem]; rfl, _, [], [], rfl, (by intro z hz; cases hz), Ow.nil _ _ _, ⟨by simp, by simp, by simp⟩, g8, Nat.le_refl _, fun _ _ _ => rfl, fun _ _ h _ => h⟩ ?_ ?_ (by rfl)
    · rintro i V H3 hi ⟨e35, vx, x, fx, hxi, hxin, how, hown, gx, hnx3, hkeep, hro⟩
      have hsc3 := hsc.keep (H' := H3) fun y hy => hkeep y (hoc.hi y hy) (fun e => by have h5 : H1.next + 2 ≤ y := hoc.lo y hy; omega)
      obtain ⟨b3, o3, c3, B3, hv3, hB3, _, hc3⟩ := hsc3.int_at hi
      rw [hvc] at hv3
      cases hv3
      have g73 : H3.get H1.next = some ⟨[.slice a0 p.length c0], 22, false, false⟩ := by rw [hkeep _ (by omega) (by omega)]; exact g7
      simp only [go_sem, e35, hi, hB3, hc3, gx, g73]
      refine Cll.by (within_w (n := (p.length : Nat)) (by omega)) ?_
      rintro _ _ - ⟨rfl, rfl⟩
      have bz := wIn_bd (lc.getD i 0) (p.length : Nat) (by omega)
      simp only [go_sem, build_one ap_22 (by decide) (by decide)]
      refine cps_app1 (r := .int) (x := wIn (lc.getD i 0) (p.length : Nat)) (g := []) ap_22 (how.keep fun y hy => get_push_lt (hown.hi y hy)) (fun y hy => Nat.lt_succ_of_lt (hown.hi y hy)) (by rw [List.append_nil]; exact hown.nd) (by simp) (fun y hy => hf.fresh (by have := hown.lo y hy; have := hold1.nx; omega)) (by rw [get_push, if_pos rfl]) (Rp.int_E.2 ⟨rfl, rfl⟩) rfl (by omega) ?_
      intro v5 H5 f5 how5 hnd5 hmem5 hhi5 hnx5 hkp5 hfz5 hro5
      have hnx5' : H5.next = H3.next + 2 := hnx5
      have hn8 : H1.next + 1 ∉ fx := fun e => by have := hown.lo _ e; omega
      have g85 : H5.get (H1.next + 1) = some ⟨[vx], 22, false, false⟩ := by rw [hkp5 _ (by rw [next_push]; omega) hn8, get_push_lt (by omega)]; exact gx
      obtain ⟨a5, c5, hv5⟩ := how5.sl.val
      rw [hv5]
      simp only [go_sem, e35, g85, hX8, wrap_succ hi (by omega)]
      have hin5 : In (x ++ [wIn (lc.getD i 0) (p.length : Nat)]) p.length := by
        intro z hz
        rcases List.mem_append.1 hz with h | h
        · exact hxin z h
        · rw [List.mem_singleton.1 h]; exact bz
      have hlo5 : ∀ y ∈ f5, Hc.next ≤ y := fun y hy => by
        rcases hmem5 y hy with h | h | h
        · rw [next_push] at h; omega
        · exact hown.lo y h
        · cases h
      rw [hv5] at how5
      refine ⟨_, x ++ [wIn (lc.getD i 0) (p.length : Nat)], f5, by simp [hxi], hin5, how5.keep (fun y hy => if_neg (fun e => by have := hlo5 y hy; omega)), ⟨hnd5, hlo5, hhi5⟩, rfl, by omega, fun y hy hne => ?_, fun b B hB hr => ?_⟩
      · rw [if_neg hne, hkp5 y (by rw [next_push]; omega) (fun e => by have := hown.lo y e; omega), get_push_lt (by omega)]
        exact hkeep y hy hne
      · split at hB
        · cases hB; cases hr
        · have h5 := hro5 b B hB hr
          rw [get_push] at h5
          split at h5
          · cases h5; cases hr
          · exact hro b B h5 hr
    · rintro V H3 ⟨e35, vx, x, fx, hxi, hxin, how, hown, gx, hnx3, hkeep, hro⟩
      have hsx := how.sl
      have g73 : H3.get H1.next = some ⟨[.slice a0 p.length c0], 22, false, false⟩ := by rw [hkeep _ (by omega) (by omega)]; exact g7
      have hp3 : Sl .int H3 (.slice a0 p.length c0) p fp := hpc'.keep fun y hy => by have := hop.hi y hy; exact hkeep y (by omega) (by omega)
      have hfp3 : ∀ y ∈ fp, y < H3.next := fun y hy => by have := hop.hi y hy; omega
      simp only [go_sem, e35, gx, g73]
      refine Cll.by (join_w hp3 hfp3 hsx hown.hi hpc hxin (by omega) (by omega)) ?_
      rintro _ H4 - ⟨hold4, vq, b, q, fq, rfl, hb, hj, hsq, hoq⟩
      obtain ⟨aq, cq, hvq⟩ := hsq.val
      rw [hj.len] at hvq
      have g74 : H4.get H1.next = some ⟨[.slice a0 p.length c0], 22, false, false⟩ := by rw [hold4.get _ (by omega)]; exact g73
      have g84 : H4.get (H1.next + 1) = some ⟨[vx], 22, false, false⟩ := by rw [hold4.get _ (by omega)]; exact gx
      have nl : decide (((p.length : Nat) : Int) = (p.length : Nat)) = true := by simp
      simp only [go_sem, hvq, g74]
      refine Cll.by (right_w (hvq ▸ hsq) (by rw [hj.len]; omega)) ?_
      rintro _ _ - ⟨⟨b1, rfl, hb1⟩, rfl⟩
      obtain rfl := hb1.2 hj.cls
      have hp4 : Sl .int H4 (.slice a0 p.length c0) p fp := hp3.keep fun y hy => hold4.get y (hfp3 y hy)
      have hx4 : Sl .int H4 vx x fx := hsx.keep fun y hy => hold4.get y (hown.hi y hy)
      obtain ⟨ax, cx, hvx⟩ := hx4.val
      subst hvx
      simp only [go_sem, g84]
      refine w_for 9903520240496065904354902016 x.length (fun i V H5 => V 66 = .int .i64 (i : Nat) ∧ H4 = H5 ∧ ∃ t, V 14 = .bool t ∧ (t = true ↔ Good p x i)) ⟨by simp only [go_sem]; rfl, rfl, true, by simp only [go_sem], ⟨fun _ a ha => by omega, fun _ => rfl⟩⟩ ?_ ?_ (by rfl)
      · rintro i V H5 hi ⟨e66, rfl, t, e14, ht⟩
        have hia := hxin.at hi
        have hx1 : (x.getD i 0).toNat < p.length := by omega
        obtain ⟨b3, o3, c3, B3, hv3, hB3, _, hc3⟩ := hx4.int_at hi
        cases hv3
        obtain ⟨b6, o6, c6, B6, hv6, hB6, _, hc6⟩ := hp4.int_at hx1
        cases hv6
        simp only [go_sem, e66, e14, hi]
        refine w_for 4951759566845710740890927104 i (fun j V' H5 => V' 16 = .int .i64 (j : Nat) ∧ H4 = H5 ∧ ∃ t, V' 14 = .bool t ∧ (t = true ↔ Good p x i ∧ ∀ k, k < j → At p x i ≠ At p x k)) ⟨by simp only [go_sem]; rfl, rfl, t, by simp only [go_sem, e14], by rw [ht]; exact ⟨fun h => ⟨h, fun k hk => by omega⟩, fun h => h.1⟩⟩ ?_ ?_ (by rfl)
        · rintro j V' H5 hj5 ⟨e16, rfl, t', e14', ht'⟩
          have hjx : j < x.length := by omega
          have hja := hxin.at hjx
          have hx2 : (x.getD j 0).toNat < p.length := by omega
          obtain ⟨b4, o4, c4, B4, hv4, hB4, _, hc4⟩ := hx4.int_at hjx
          cases hv4
          rw [hB3] at hB4
          cases hB4
          obtain ⟨b7, o7, c7, B7, hv7, hB7, _, hc7⟩ := hp4.int_at hx2
          cases hv7
          rw [hB6] at hB7
          cases hB7
          have step : ∀ u : Bool, (u = true ↔ (t' = true ∧ ¬ p.getD (x.getD i 0).toNat 0 = p.getD (x.getD j 0).toNat 0)) → (u = true ↔ Good p x i ∧ ∀ k, k < j + 1 → At p x i ≠ At p x k) := by
            intro u hu
            rw [hu, ht']
            constructor
            · rintro ⟨⟨g1, g2⟩, g3⟩
              refine ⟨g1, fun k hk => ?_⟩
              by_cases hkj : k = j
              · subst hkj; exact g3
              · exact g2 k (by omega)
            · rintro ⟨g1, g2⟩
              exact ⟨⟨g1, fun k hk => g2 k (by omega)⟩, g2 j (by omega)⟩
          cases t'
          · simp only [go_sem, e16, e14', hj5, wrap_succ hj5 (by omega)]
            exact ⟨_, rfl, step false (by simp)⟩
          · simp only [go_sem, e16, e14', hj5, wrap_succ hj5 (by omega), g74, g84, hi, hjx, hB3, hc3, hc4, hia.1, hja.1, hx1, hx2, hB6, hc6, hc7]
            exact ⟨_, rfl, step _ (by simp)⟩
        · rintro V' H5 ⟨e16, rfl, t', e14', ht'⟩
          simp only [go_sem, e16, e66, e14', wrap_succ hi (by omega)]
          refine ⟨_, rfl, ?_⟩
          rw [ht']
          constructor
          · rintro ⟨g1, g2⟩ a ha k hk
            by_cases hai : a = i
            · subst hai; exact g2 k hk
            · exact g1 a (by omega) k hk
          · exact fun g => ⟨fun a ha => g a (by omega), fun k hk => g i (by omega) k hk⟩
      · rintro V H5 ⟨e66, rfl, t, e14, ht⟩
        have htb : t = b := by rw [Bool.eq_iff_iff, ht, hb]
        subst htb
        simp only [go_sem, e66, e14, g74]
        refine w_for 43556142965840509242054817582469560008768 p.length (fun i V' H5 => V' 95 = .int .i64 (i : Nat) ∧ H4 = H5) ⟨by simp only [go_sem]; rfl, rfl⟩ ?_ ?_ (by rfl)
        · rintro i V' H5 hi ⟨e95, rfl⟩
          simp only [go_sem, e95, hi, g74]
          refine w_for 21778071481672411061427745474136463114304 p.length (fun k V2 H5 => V2 100 = .int .i64 (k : Nat) ∧ H4 = H5) ⟨by simp only [go_sem]; rfl, rfl⟩ ?_ ?_ (by rfl)
          · rintro k V2 H5 hk ⟨e100, rfl⟩
            obtain ⟨b6, o6, c6, B6, hv6, hB6, _, hc6⟩ := hp4.int_at hi
            cases hv6
            obtain ⟨b7, o7, c7, B7, hv7, hB7, _, hc7⟩ := hp4.int_at hk
            cases hv7
            rw [hB6] at hB7
            cases hB7
            obtain ⟨b8, o8, c8, B8, hv8, hB8, _, hc8⟩ := hsq.int_at (i := i) (by rw [hj.len]; exact hi)
            rw [hvq, hj.len] at hv8
            cases hv8
            obtain ⟨b9, o9, c9, B9, hv9, hB9, _, hc9⟩ := hsq.int_at (i := k) (by rw [hj.len]; exact hk)
            rw [hvq, hj.len] at hv9
            cases hv9
            rw [hB8] at hB9
            cases hB9
            have hev := hj.eqv i k hi hk
            by_cases h1 : p.getD i 0 = p.getD k 0
            · have hq : q.getD i 0 = q.getD k 0 := hev.2 (.inl h1)
              simp only [go_sem, e95, e100, hi, hk, g74, hB6, hc6, hc7, h1, hvq, hB8, hc8, hc9, hq, neq_bool, wrap_succ hk (by omega)]
            · simp only [go_sem, e95, e100, hi, hk, g74, hB6, hc6, hc7, h1]
              refine Cll.by (touched_w g84 rfl g74 rfl hp4 hx4 hxin hi (by omega)) ?_
              rintro _ _ - ⟨⟨u1, rfl, hu1⟩, rfl⟩
              cases u1
              · have hq : ¬ q.getD i 0 = q.getD k 0 := fun e => (hev.1 e).elim h1 fun h => by have := hu1.2 h.1; cases this
                simp only [go_sem, e95, e100, hi, hk, g74, hB6, hc6, hc7, h1, hvq, hB8, hc8, hc9, hq, neq_bool, wrap_succ hk (by omega)]
              · simp only [go_sem, e95, e100, hi, hk, g74, hB6, hc6, hc7, h1]
                refine Cll.by (touched_w g84 rfl g74 rfl hp4 hx4 hxin hk (by omega)) ?_
                rintro _ _ - ⟨⟨u2, rfl, hu2⟩, rfl⟩
                have hqe : decide (q.getD i 0 = q.getD k 0) = u2 := by
                  rw [Bool.eq_iff_iff, decide_eq_true_iff, hev, hu2]
                  exact ⟨fun h => h.elim (fun h => absurd h h1) (fun h => h.2), fun h => .inr ⟨hu1.1 rfl, h⟩⟩
                have hbb : (!(u2 == u2)) = false := by simp
                simp only [go_sem, e95, e100, hi, hk, g74, hB6, hc6, hc7, h1, hvq, hB8, hc8, hc9, hqe, neq_bool, hbb, wrap_succ hk (by omega)]
          · rintro V2 H5 ⟨e100, rfl⟩
            simp only [go_sem, e95, e100, wrap_succ hi (by omega)]
        · rintro V' H5 ⟨e95, rfl⟩
          have hbb : (t == t) = true := by simp
          simp only [go_sem, e95, e14, eql_bool, hbb]
          refine Cll.by wakes_w ?_
          rintro _ H6 - ⟨hold6, rfl⟩
          simp only [go_sem]
end Go.Proofs.Ytilkokbmabbpgaa.Ab
