/- The law PostKeeps. -/
import Derived.Test.YtgjpcliaggpcaaaS4
import Derived.Test.YtgjpcliaggpcaaaAbR6
set_option linter.unusedVariables false
set_option linter.unusedSimpArgs false
set_option maxRecDepth 100000
namespace Go.Proofs.Ytgjpcliaggpcaaa.Ab
open Go

abbrev valS : Rp (Unit × Unit) := .pair .hole .hole
abbrev MsgS := Unit × Unit × List (Unit × Unit)
abbrev msgS : Rp MsgS := .pair .hole (.pair .hole (.slice valS))
abbrev boxS : Rp (Bool × List MsgS) := .pair .bool (.slice msgS)
theorem valS_E {H : AHeap} {cs : List Value} {x : Unit × Unit} {f : List Nat} (h : valS.E H cs x f) : ∃ a b, cs = [.int .i64 a, .int .i64 b] := by
  obtain ⟨c1, c2, f1, f2, rfl, rfl, ⟨⟨a, rfl⟩, rfl⟩, ⟨⟨b, rfl⟩, rfl⟩⟩ := h; exact ⟨a, b, rfl⟩
theorem msgS_E {H : AHeap} {cs : List Value} {x : MsgS} {f : List Nat} (h : msgS.E H cs x f) : ∃ a b v, cs = [.int .i64 a, .int .i64 b, v] ∧ Sl valS H v x.2.2 f := by
  obtain ⟨c1, c2, f1, f2, rfl, rfl, ⟨⟨a, rfl⟩, rfl⟩, ⟨c3, c4, f3, f4, rfl, rfl, ⟨⟨b, rfl⟩, rfl⟩, ⟨v, rfl, h⟩⟩⟩ := h; exact ⟨a, b, v, rfl, h⟩
theorem boxS_E {H : AHeap} {cs : List Value} {x : Bool × List MsgS} {f : List Nat} (h : boxS.E H cs x f) : ∃ v, cs = [.bool x.1, v] ∧ Sl msgS H v x.2 f := by
  obtain ⟨c1, c2, f1, f2, rfl, rfl, ⟨rfl, rfl⟩, ⟨v, rfl, h⟩⟩ := h; exact ⟨v, rfl, h⟩
theorem mor_val : Mor valR valS fun x => ((), ()) := mor_pair mor_hole mor_hole
theorem mor_msg : Mor msgR msgS fun m => ((), (), m.2.2.map fun _ => ((), ())) := mor_pair mor_hole (mor_pair mor_hole (mor_slice mor_val))
theorem mor_box : Mor boxR boxS fun x => (x.1, x.2.map fun m => ((), (), m.2.2.map fun _ => ((), ()))) := mor_pair (mor_id _) (mor_slice mor_msg)
def shpL (l : List (Bool × List Msg)) : List (Bool × List MsgS) := l.map fun x => (x.1, x.2.map fun m => ((), (), m.2.2.map fun _ => ((), ())))
theorem loose_val : valS.Loose := loose_pair loose_hole loose_hole
theorem loose_msg : msgS.Loose := loose_pair loose_hole (loose_pair loose_hole (loose_slice loose_val))
theorem loose_box : boxS.Loose := loose_pair loose_bool (loose_slice loose_msg)

theorem zrBB : zeroK Try.prog 54 = some [.slice none 0 0] := by kernel_rfl
theorem postKeeps_w {H : AHeap} {v : Value} {l : List (Bool × List Int)} {f : List Nat} {n k m : Int} (h : Sl rawR H v l f) (hlt : ∀ y ∈ f, y < H.next) :
    FnW Try.prog 10 #[v, .int .i64 n, .int .i64 k, .int .i64 m] H (fun w _ => w = .bool true) := by
  refine fw_10 (Nat.le_refl _) fun hf => ?_
  simp only [Try.f10, Option.getD_some]
  simp only [go_sem]
  have hXn : ∀ {H' : AHeap}, Old H H' → H.fz H'.next = false := fun ho => hf.fresh ho.nx
  have hb0 := Bd.of l
  refine Cll.by (of_w h hlt) ?_
  rintro vo Ho - ⟨holdo, fo, howo, hoo⟩
  simp only [go_sem]
  refine Cll.by (of_w (h.keep fun y hy => holdo.get y (hlt y hy)) (fun y hy => Nat.lt_of_lt_of_le (hlt y hy) holdo.nx)) ?_
  rintro vw Hw - ⟨holdw, fw, howw, how⟩
  generalize hL : ofL l = L at howo howw hb0
  have hsm : Small L := hb0.small (by decide) (by decide) (by decide)
  simp only [go_sem]
  refine Cll.by msg_w ?_
  rintro _ Hm - ⟨holdm, csm, fm, rfl, hEm, hom⟩
  have hma := msgF_args m
  generalize hmm : msgF m = mm at hEm hma
  obtain ⟨vm, rfl, hsm1⟩ := msgR_E.1 hEm
  obtain ⟨am, cm, hvm⟩ := hsm1.val
  subst hvm
  have oHm := (holdo.trans holdw).trans holdm
  have hXm : H.fz Hm.next = false := hXn oHm
  simp only [go_sem, hXm]
  generalize hHx : (Hm.push ⟨[.int .i64 mm.1, .int .i64 mm.2.1, .slice am mm.2.2.length cm], 76, false, false⟩) = Hx
  have omx : Old Hm Hx := by rw [← hHx]; exact Old.push _ _
  have gx : Hx.get Hm.next = some ⟨[.int .i64 mm.1, .int .i64 mm.2.1, .slice am mm.2.2.length cm], 76, false, false⟩ := by rw [← hHx, get_push, if_pos rfl]
  have hnx : Hm.next < Hx.next := by rw [← hHx]; exact Nat.lt_succ_self _
  have oHx : Old H Hx := oHm.trans omx
  have oox : Old Ho Hx := (holdw.trans holdm).trans omx
  have owx : Old Hw Hx := holdm.trans omx
  have ko : ∀ {H' : AHeap}, Old Hx H' → Sl boxR H' vo L fo := fun ho => (howo.sl.keep fun y hy => (oox.trans ho).get y (hoo.hi y hy)).map fun _ _ _ => boxO_R
  have kl : ∀ {H' : AHeap}, Old Hx H' → ∀ y ∈ fo, y < H'.next := fun ho y hy => Nat.lt_of_lt_of_le (hoo.hi y hy) (oox.trans ho).nx
  have kw : ∀ {H' : AHeap}, Old Hx H' → Sl boxR H' vw L fw := fun ho => (howw.sl.keep fun y hy => (owx.trans ho).get y (how.hi y hy)).map fun _ _ _ => boxO_R
  have kwl : ∀ {H' : AHeap}, Old Hx H' → ∀ y ∈ fw, y < H'.next := fun ho y hy => Nat.lt_of_lt_of_le (how.hi y hy) (owx.trans ho).nx
  have km : ∀ {H' : AHeap}, Old Hx H' → msgR.E H' [.int .i64 mm.1, .int .i64 mm.2.1, .slice am mm.2.2.length cm] mm fm := fun ho => msgR_E.2 ⟨_, rfl, hsm1.keep fun y hy => (omx.trans ho).get y (hom.hi y hy)⟩
  have kml : ∀ {H' : AHeap}, Old Hx H' → ∀ y ∈ fm, y < H'.next := fun ho y hy => Nat.lt_of_lt_of_le (hom.hi y hy) (omx.trans ho).nx
  refine Cll.by (within_w (by decide)) ?_
  rintro _ _ - ⟨rfl, rfl⟩
  generalize hx : wIn n 6 = x
  simp only [go_sem, gx]
  refine Cll.by (put_w (cs := [_, _, _]) (ko (.refl _)) (kl (.refl _)) hsm (km (.refl _)) (kml (.refl _)) (by omega)) ?_
  rintro va Ha - ⟨olda, fa, hsa, hoa⟩
  simp only [go_sem]
  refine Cll.by (open_w (ko olda) (kl olda) hsm) ?_
  rintro _ Hb - ⟨oldb, vb, fb, rfl, hsb, hob⟩
  have oxb := olda.trans oldb
  simp only [go_sem]
  refine Cll.by (within_w (by decide)) ?_
  rintro _ _ - ⟨rfl, rfl⟩
  generalize hy : wIn k 5 = y
  simp only [go_sem]
  refine Cll.by (take_w (ko oxb) (kl oxb) hsm) ?_
  rintro _ Hc - ⟨oldc, vc, csc, fc, fp, rfl, hsc, hEp, hocp⟩
  have hTM := hb0.msg x y
  generalize takeM L x y = TM at hEp hTM
  obtain ⟨vp, rfl, hsp⟩ := msgR_E.1 hEp
  obtain ⟨ap, cp, hvp⟩ := hsp.val
  subst hvp
  have oxc := oxb.trans oldc
  have hXc : H.fz Hc.next = false := hXn (oHx.trans oxc)
  simp only [go_sem, hXc]
  generalize hHc' : (Hc.push ⟨[.int .i64 TM.1, .int .i64 TM.2.1, .slice ap TM.2.2.length cp], 76, false, false⟩) = Hc'
  have occ : Old Hc Hc' := by rw [← hHc']; exact Old.push _ _
  have gp : Hc'.get Hc.next = some ⟨[.int .i64 TM.1, .int .i64 TM.2.1, .slice ap TM.2.2.length cp], 76, false, false⟩ := by rw [← hHc', get_push, if_pos rfl]
  have hnp : Hc.next < Hc'.next := by rw [← hHc']; exact Nat.lt_succ_self _
  have oxc' := oxc.trans occ
  refine Cll.by (free_w (ko oxc') (kl oxc') hsm) ?_
  rintro vd Hd - ⟨oldd, fd, hsd, hod⟩
  have oxd := oxc'.trans oldd
  obtain ⟨aa, ca, hva⟩ := hsa.val
  obtain ⟨ab, cb, hvb⟩ := hsb.val
  obtain ⟨ac, cc, hvc⟩ := hsc.val
  obtain ⟨ad, cd, hvd⟩ := hsd.val
  have bl : buildSliceA Try.prog 85 4 [(0, va), (1, vb), (2, vc), (3, vd)] Hd = .ok (.slice (some ⟨Hd.next, 0, none⟩) 4 4) (Hd.push ⟨[va, vb, vc, vd], 54, false, false⟩) := by
    rw [hva, hvb, hvc, hvd]
    exact build_at ap_85 zrBB (by decide) (by decide) rfl
  simp only [go_sem, bl]
  generalize hHz : (Hd.push ⟨[va, vb, vc, vd], 54, false, false⟩) = Hz
  have odz : Old Hd Hz := by rw [← hHz]; exact Old.push _ _
  have oxz : Old Hx Hz := oxd.trans odz
  have hnz : Hd.next < Hz.next := by rw [← hHz]; exact Nat.lt_succ_self _
  have oaz : Old Ha Hz := (((oldb.trans oldc).trans occ).trans oldd).trans odz
  have obz : Old Hb Hz := ((oldc.trans occ).trans oldd).trans odz
  have ocz : Old Hc Hz := (occ.trans oldd).trans odz
  have hfc : ∀ z ∈ fc, Hb.next ≤ z ∧ z < Hc.next := fun z hz => ⟨hocp.lo z (List.mem_append_left _ hz), hocp.hi z (List.mem_append_left _ hz)⟩
  have hfp : ∀ z ∈ fp, Hb.next ≤ z ∧ z < Hc.next := fun z hz => ⟨hocp.lo z (List.mem_append_right _ hz), hocp.hi z (List.mem_append_right _ hz)⟩
  have nxa := olda.nx
  have nxb := oldb.nx
  have nxc := oldc.nx
  have nxc' := occ.nx
  have nxd := oldd.nx
  have hz : Sl (.slice boxS) Hz (.slice (some ⟨Hd.next, 0, none⟩) 4 4) [shpL (putL L x mm), shpL (L ++ [(false, [])]), shpL (takeL L x y), shpL (freeL L x)] (Hd.next :: (fa ++ (fb ++ (fc ++ (fd ++ []))))) := by
    refine .inr (.inr ⟨Hd.next, 0, 4, _, fa ++ (fb ++ (fc ++ (fd ++ []))), rfl, by simp, by simp, rfl, by rw [← hHz, get_push, if_pos rfl], ?_⟩)
    exact ⟨[va], [vb, vc, vd], fa, _, rfl, rfl, ⟨va, rfl, (hsa.keep fun z hz => oaz.get z (hoa.hi z hz)).mor mor_box⟩, [vb], [vc, vd], fb, _, rfl, rfl, ⟨vb, rfl, (hsb.keep fun z hz => obz.get z (hob.hi z hz)).mor mor_box⟩,
      [vc], [vd], fc, _, rfl, rfl, ⟨vc, rfl, (hsc.keep fun z hz => ocz.get z (hfc z hz).2).mor mor_box⟩, [vd], [], fd, [], rfl, rfl, ⟨vd, rfl, (hsd.keep fun z hz => odz.get z (hod.hi z hz)).mor mor_box⟩, rfl⟩
  have hzlo : ∀ z ∈ (Hd.next :: (fa ++ (fb ++ (fc ++ (fd ++ []))))), Hx.next ≤ z ∧ z < Hz.next := fun z hz => by
    simp only [List.mem_cons, List.mem_append, List.not_mem_nil, or_false] at hz
    rcases hz with e | e | e | e | e
    · omega
    · have := hoa.lo z e; have := hoa.hi z e; omega
    · have := hob.lo z e; have := hob.hi z e; omega
    · have := hfc z e; omega
    · have := hod.lo z e; have := hod.hi z e; omega
  have hlens : ∀ Lz ∈ [shpL (putL L x mm), shpL (L ++ [(false, [])]), shpL (takeL L x y), shpL (freeL L x)], Lz.length ≤ 7 ∧ ∀ w ∈ Lz, w.2.length ≤ 6 ∧ ∀ u ∈ w.2, u.2.2.length ≤ 2 := by
    have key : ∀ (L' : List (Bool × List Msg)), Bd 7 6 2 L' → (shpL L').length ≤ 7 ∧ ∀ w ∈ shpL L', w.2.length ≤ 6 ∧ ∀ u ∈ w.2, u.2.2.length ≤ 2 := fun L' hb => by
      refine ⟨by rw [shpL, List.length_map]; exact hb.len, fun w hw => ?_⟩
      obtain ⟨w', hw', rfl⟩ := List.mem_map.1 hw
      refine ⟨by rw [List.length_map]; exact hb.mail w' hw', fun u hu => ?_⟩
      obtain ⟨u', hu', rfl⟩ := List.mem_map.1 hu
      rw [List.length_map]; exact hb.args w' hw' u' hu'
    have up : ∀ {a b : Nat} {L' : List (Bool × List Msg)}, a ≤ 7 → b ≤ 6 → Bd a b 2 L' → Bd 7 6 2 L' := fun ha hb h => ⟨Nat.le_trans h.len ha, fun w hw => Nat.le_trans (h.mail w hw) hb, h.args⟩
    intro Lz hLz
    simp only [List.mem_cons, List.not_mem_nil, or_false] at hLz
    rcases hLz with rfl | rfl | rfl | rfl
    · exact key _ (up (by decide) (by decide) (hb0.put x (m := mm) (by omega)))
    · exact key _ (up (by decide) (by decide) hb0.opn)
    · exact key _ (up (by decide) (by decide) (hb0.take x y))
    · exact key _ (up (by decide) (by decide) (hb0.free x))
  generalize [shpL (putL L x mm), shpL (L ++ [(false, [])]), shpL (takeL L x y), shpL (freeL L x)] = LL at hz hlens
  have hll : LL.length = 4 := by
    obtain ⟨a1, c1, e⟩ := hz.val
    simp at e; omega
  generalize (Hd.next :: (fa ++ (fb ++ (fc ++ (fd ++ []))))) = fz at hz hzlo
  -- what is written lies behind
  have hlow : ∀ {H1 : AHeap}, Tw Hx.next Hz H1 → ∀ {b : Nat} {B : ABlk}, Hx.next ≤ b → H1.get b = some B → H.fz b = false ∧ B.ro = false := by
    intro H1 hT b B hb hB
    exact ⟨hf.fresh (Nat.le_trans oHx.nx hb), (oHx.trans (hT.old oxz)).free hf (Nat.le_trans oHx.nx hb) hB⟩
  refine w_for 21267647932558653964155069955303276544 4 (fun i V H1 => V 61 = .int .i64 (i : Nat) ∧ Tw Hx.next Hz H1) ⟨by simp only [go_sem]; rfl, Tw.refl _ _⟩ ?_ ?_ (by rfl)
  · rintro i V H1 hi ⟨e61, hT1⟩
    have hx0 : LL[i]? = some (LL[i]'(by omega)) := List.getElem?_eq_getElem (by omega)
    generalize hLz : (LL[i]'(by omega)) = Lz at hx0
    have hLm : Lz ∈ LL := hLz ▸ List.getElem_mem _
    obtain ⟨hz1, hz2⟩ := hlens Lz hLm
    obtain ⟨b, o, c, B, g, hv, hB, hbf, hgf, hbl, vz, hrow, hsz⟩ := (hz.loose (loose_slice loose_box) hT1.lo).at hx0
    rw [hll] at hv
    cases hv
    have hglo : ∀ w ∈ g, Hx.next ≤ w := fun w hw => (hzlo w (hgf w hw)).1
    rw [Nat.zero_add] at hrow hbl
    have hc : B.cells[i]? = some vz := by
      have : ((B.cells.drop (i * 1)).take 1)[0]? = some vz := by rw [show (B.cells.drop (i * 1)).take 1 = _ from hrow]; rfl
      rw [List.getElem?_take, if_pos (by decide), List.getElem?_drop, Nat.mul_one, Nat.add_zero] at this
      exact this
    obtain ⟨az, cz, hvz⟩ := hsz.val
    simp only [go_sem, e61, hi, hB, hc, hvz]
    refine w_for 10633823966279326835656503892595703808 Lz.length (fun j V H2 => V 67 = .int .i64 (j : Nat) ∧ Tw Hx.next H1 H2) ⟨by simp only [go_sem]; rfl, Tw.refl _ _⟩ ?_ ?_ (by rfl)
    · rintro j V2 H2 hj ⟨e67, hT2⟩
      have hy0 : Lz[j]? = some Lz[j] := List.getElem?_eq_getElem hj
      generalize hw : Lz[j] = w at hy0
      obtain ⟨hw1, hw2⟩ := hz2 w (hw ▸ List.getElem_mem hj)
      obtain ⟨b2, o2, c2, B2, g2, hv2, hB2, hbf2, hgf2, hbl2, hE2⟩ := (hsz.loose loose_box hT2.lo).at hy0
      obtain ⟨vm2, hrow2, hsm2⟩ := boxS_E hE2
      rw [hvz] at hv2
      cases hv2
      have hc2 : B2.cells[o2 + j * 2 + 1]? = some vm2 := cell1 hrow2
      obtain ⟨am2, cm2, hvm2⟩ := hsm2.val
      simp only [go_sem, e67, hj, hB2, hc2, hvm2]
      refine w_for 5316911983139587933751502326823124992 w.2.length (fun t V H3 => V 76 = .int .i64 (t : Nat) ∧ Tw Hx.next H2 H3) ⟨by simp only [go_sem]; rfl, Tw.refl _ _⟩ ?_ ?_ (by rfl)
      · rintro t V3 H3 ht ⟨e76, hT3⟩
        have ht0 : w.2[t]? = some w.2[t] := List.getElem?_eq_getElem ht
        generalize hu : w.2[t] = u at ht0
        have hu1 := hw2 u (hu ▸ List.getElem_mem ht)
        have hT13 := hT2.trans hT3
        have hTz3 := hT1.trans hT13
        -- the row of boxes, a row of messages, in any heap that came since
        have get2 : ∀ {H' : AHeap}, Tw Hx.next H2 H' → ∃ B', H'.get b2 = some B' ∧ B'.cells[o2 + j * 2 + 1]? = some (.slice am2 w.2.length cm2) := by
          intro H' hT'
          obtain ⟨B', h1, h2⟩ := hT'.lo b2 B2 hB2
          refine ⟨B', h1, ?_⟩
          rcases h2.2 _ _ hc2 with e | ⟨⟨x, e⟩, _⟩
          · rw [e, hvm2]
          · rw [hvm2] at e; cases e
        -- the arguments of a message, in any heap that came since
        have get4 : ∀ {H' : AHeap}, Tw Hx.next H2 H' → ∃ b5 o5 c5 B5 g5 a5 d5, Value.slice am2 w.2.length cm2 = .slice (some ⟨b5, o5, none⟩) w.2.length c5 ∧ H'.get b5 = some B5 ∧ B5.cells[o5 + t * 3 + 2]? = some (.slice a5 u.2.2.length d5) ∧ Sl valS H' (.slice a5 u.2.2.length d5) u.2.2 g5 ∧ ∀ z ∈ g5, Hx.next ≤ z := by
          intro H' hT'
          obtain ⟨b5, o5, c5, B5, g5, hv5, hB5, hbf5, hgf5, hbl5, hE5⟩ := (hsm2.loose loose_msg hT'.lo).at ht0
          obtain ⟨p5, q5, va5, hrow5, hsa5⟩ := msgS_E hE5
          obtain ⟨a5, d5, hva5⟩ := hsa5.val
          have hrow5' : (B5.cells.drop (o5 + t * 3)).take 3 = [.int .i64 p5, .int .i64 q5, va5] := hrow5
          refine ⟨b5, o5, c5, B5, g5, a5, d5, hvm2 ▸ hv5, hB5, ?_, hva5 ▸ hsa5, fun z hz => hglo z (hgf2 z (hgf5 z hz))⟩
          have : ((B5.cells.drop (o5 + t * 3)).take 3)[2]? = some va5 := by rw [hrow5']; rfl
          rw [List.getElem?_take, if_pos (by decide), List.getElem?_drop] at this
          rw [← hva5]; exact this
        obtain ⟨B3, hB3, hc3⟩ := get2 hT3
        obtain ⟨b4, o4, c4, B4, g4, hv4, hB4, hbf4, hgf4, hbl4, hE4⟩ := (hsm2.loose loose_msg hT3.lo).at ht0
        obtain ⟨p4, q4, va4, hrow4, hsa4⟩ := msgS_E hE4
        rw [hvm2] at hv4
        cases hv4
        have hrow4' : (B4.cells.drop (o4 + t * 3)).take 3 = [.int .i64 p4, .int .i64 q4, va4] := hrow4
        have hq4 : B4.cells[o4 + t * 3 + 1]? = some (.int .i64 q4) := by
          have : ((B4.cells.drop (o4 + t * 3)).take 3)[1]? = some (.int .i64 q4) := by rw [hrow4']; rfl
          rw [List.getElem?_take, if_pos (by decide), List.getElem?_drop] at this
          exact this
        have hb4 : Hx.next ≤ b4 := hglo b4 (hgf2 b4 hbf4)
        obtain ⟨hX4, hro4⟩ := hlow hTz3 hb4 hB4
        have hl4 : o4 + t * 3 + 1 < B4.cells.length := (List.getElem?_eq_some_iff.1 hq4).1
        have hT4 : Tw Hx.next H2 (H3.upd b4 ⟨B4.cells.set (o4 + t * 3 + 1) (.int .i64 (IntKind.wrap .i64 (q4 + 9))), B4.elem, B4.opn, false⟩) := hT3.set hb4 hB4 hq4
        simp only [go_sem, e67, e76, hj, ht, hB3, hc3, hB4, hq4, hX4, hro4, hl4]
        have hl5 : o4 + t * 3 + 1 + 1 ≤ B4.cells.length := hl4
        rw [if_pos hl5, cps_upd hX4]
        generalize hH4 : (H3.upd b4 ⟨B4.cells.set (o4 + t * 3 + 1) (.int .i64 (IntKind.wrap .i64 (q4 + 9))), B4.elem, B4.opn, false⟩) = H4 at hT4 ⊢
        obtain ⟨B6, hB6, hc6⟩ := get2 hT4
        obtain ⟨b7, o7, c7, B7, g7, a7, d7, hv7, hB7, hc7, hs7, hlo7⟩ := get4 hT4
        cases hv7
        simp only [go_sem, hl5, e67, e76, hj, ht, hB6, hc6, hB7, hc7]
        refine w_for 2658453456268631289348811127171055616 u.2.2.length (fun q V H5 => V 101 = .int .i64 (q : Nat) ∧ Tw Hx.next H4 H5) ⟨by simp only [go_sem]; rfl, Tw.refl _ _⟩ ?_ ?_ (by rfl)
        · rintro q V4 H5 hq ⟨e101, hT5⟩
          have hT25 := hT4.trans hT5
          obtain ⟨B8, hB8, hc8⟩ := get2 hT25
          obtain ⟨b9, o9, c9, B9, g9, a9, d9, hv9, hB9, hc9, hs9, hlo9⟩ := get4 hT25
          cases hv9
          obtain ⟨b10, o10, c10, B10, g10, hv10, hB10, hbf10, _, _, hE10⟩ := hs9.at (i := q) (List.getElem?_eq_getElem hq)
          cases hv10
          obtain ⟨r10, s10, hrow10⟩ := valS_E hE10
          have hc10 : B10.cells[o10 + q * 2 + 1]? = some (.int .i64 s10) := cell1 hrow10
          have hb10 := hlo9 b10 hbf10
          obtain ⟨hX10, hro10⟩ := hlow (hT1.trans (hT2.trans hT25)) hb10 hB10
          have hl10 : o10 + q * 2 + 1 < B10.cells.length := (List.getElem?_eq_some_iff.1 hc10).1
          have hl11 : o10 + q * 2 + 1 + 1 ≤ B10.cells.length := hl10
          have hT6 := hT5.set (y := IntKind.wrap .i64 (s10 + 9)) hb10 hB10 hc10
          have hws : IntKind.wrap .i64 (((q : Nat) : Int) + 1) = ((q + 1 : Nat) : Int) := wrap_succ hq (by omega)
          simp only [go_sem, e67, e76, e101, hj, ht, hq, hB8, hc8, hB9, hc9, hB10, hc10, hX10, hro10, hl10, hl11, hws]
          exact hT6
        · rintro V4 H5 ⟨e101, hT5⟩
          have hws : IntKind.wrap .i64 (((t : Nat) : Int) + 1) = ((t + 1 : Nat) : Int) := wrap_succ ht (by omega)
          simp only [go_sem, e101, e76, hws]
          exact hT4.trans hT5
      · rintro V3 H3 ⟨e76, hT3⟩
        have hws : IntKind.wrap .i64 (((j : Nat) : Int) + 1) = ((j + 1 : Nat) : Int) := wrap_succ hj (by omega)
        simp only [go_sem, e76, e67, hws]
        exact hT2.trans hT3
    · rintro V2 H2 ⟨e67, hT2⟩
      have hws : IntKind.wrap .i64 (((i : Nat) : Int) + 1) = ((i + 1 : Nat) : Int) := wrap_succ hi (by omega)
      simp only [go_sem, e67, e61, hws]
      exact hT1.trans hT2
  · rintro V H1 ⟨e61, hT1⟩
    have opz : Old Hc' Hz := oldd.trans odz
    have gpz : Hz.get Hc.next = some ⟨[.int .i64 TM.1, .int .i64 TM.2.1, .slice ap TM.2.2.length cp], 76, false, false⟩ := by rw [opz.get _ hnp]; exact gp
    -- the message that was taken, in any heap that came since
    have hsz : Sl valS Hz (.slice ap TM.2.2.length cp) (TM.2.2.map fun _ => ((), ())) fp := (hsp.keep fun z hz => ocz.get z (hfp z hz).2).mor mor_val
    have gp1 : ∀ {H' : AHeap}, Tw Hx.next Hz H' → ∃ B', H'.get Hc.next = some B' ∧ B'.cells[2]? = some (.slice ap TM.2.2.length cp) := by
      intro H' hT'
      obtain ⟨B', h1, h2⟩ := hT'.lo _ _ gpz
      refine ⟨B', h1, ?_⟩
      rcases h2.2 2 _ rfl with e | ⟨⟨x, e⟩, _⟩
      · exact e
      · cases e
    obtain ⟨B1, hB1, hc1⟩ := gp1 hT1
    simp only [go_sem, e61, hB1, hc1]
    refine w_for 1393626433724703477114250704736806743572480 TM.2.2.length (fun q V H5 => V 127 = .int .i64 (q : Nat) ∧ Tw Hx.next Hz H5) ⟨by simp only [go_sem]; rfl, hT1⟩ ?_ ?_ (by rfl)
    · rintro q V4 H5 hq ⟨e127, hT5⟩
      obtain ⟨B8, hB8, hc8⟩ := gp1 hT5
      obtain ⟨b10, o10, c10, B10, g10, hv10, hB10, hbf10, _, _, hE10⟩ := (hsz.loose loose_val hT5.lo).at (i := q) (List.getElem?_eq_getElem (by rw [List.length_map]; exact hq))
      rw [List.length_map] at hv10
      cases hv10
      obtain ⟨r10, s10, hrow10⟩ := valS_E hE10
      have hc10 : B10.cells[o10 + q * 2 + 1]? = some (.int .i64 s10) := cell1 hrow10
      have hb10 : Hx.next ≤ b10 := by have := (hfp b10 hbf10).1; omega
      obtain ⟨hX10, hro10⟩ := hlow hT5 hb10 hB10
      have hl10 : o10 + q * 2 + 1 < B10.cells.length := (List.getElem?_eq_some_iff.1 hc10).1
      have hl11 : o10 + q * 2 + 1 + 1 ≤ B10.cells.length := hl10
      have hT6 := hT5.set (y := IntKind.wrap .i64 (s10 + 9)) hb10 hB10 hc10
      have hws : IntKind.wrap .i64 (((q : Nat) : Int) + 1) = ((q + 1 : Nat) : Int) := wrap_succ hq (by omega)
      simp only [go_sem, e127, hq, hB8, hc8, hB10, hc10, hX10, hro10, hl10, hl11, hws]
      exact hT6
    · rintro V4 H5 ⟨e127, hT5⟩
      have o5 : Old Hx H5 := hT5.old oxz
      simp only [go_sem, e127]
      refine Cll.by (sameB_w (ko o5) (kw o5) (kl o5) (kwl o5) hsm) ?_
      rintro _ H6 - ⟨rfl, o6⟩
      have gx6 : H6.get Hm.next = some ⟨[.int .i64 mm.1, .int .i64 mm.2.1, .slice am mm.2.2.length cm], 76, false, false⟩ := by rw [(o5.trans o6).get _ hnx]; exact gx
      simp only [go_sem, gx6]
      refine Cll.by msg_w ?_
      rintro _ H7 - ⟨o7, cs7, f7, rfl, hE7, ho7⟩
      rw [hmm] at hE7
      have gx7 : H7.get Hm.next = some ⟨[.int .i64 mm.1, .int .i64 mm.2.1, .slice am mm.2.2.length cm], 76, false, false⟩ := by rw [((o5.trans o6).trans o7).get _ hnx]; exact gx
      simp only [go_sem, gx6, gx7]
      refine Cll.by (sameM_w (cs1 := [_, _, _]) (km ((o5.trans o6).trans o7)) hE7 (kml ((o5.trans o6).trans o7)) ho7.hi (by omega)) ?_
      rintro _ H8 - ⟨rfl, o8⟩
      simp only [go_sem]
      refine Cll.by wakes_w ?_
      rintro _ H9 - ⟨o9, rfl⟩
      have gx9 : H9.get Hm.next = H6.get Hm.next := by rw [((o7.trans o8).trans o9).get _ (by have := (o5.trans o6).nx; omega)]
      have gx8 : H8.get Hm.next = H6.get Hm.next := by rw [(o7.trans o8).get _ (by have := (o5.trans o6).nx; omega)]
      simp only [go_sem, gx9, gx8, gx6]
end Go.Proofs.Ytgjpcliaggpcaaa.Ab
