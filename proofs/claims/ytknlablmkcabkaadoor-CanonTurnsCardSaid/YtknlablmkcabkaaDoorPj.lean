/- The roots of a rhythm out of one sum. -/
import Derived.Test.YtknlablmkcabkaaDoorPi
namespace Go.Proofs.YtknlablmkcabkaaDoor.Pa
open Go.RowKit QCanonConditions Til Go.Proofs.YtknlablmkcabkaaDoorW.PrintWords Go.Proofs.YtknlablmkcabkaaDoorW.PrintLast Go.Proofs.YtknlablmkcabkaaDoorW.PrintMore
set_option linter.unusedVariables false
set_option linter.unusedSimpArgs false

def tabAll : List (List Nat) := [[],
  [],
  [513, 1],
  [66049, 131329, 1],
  [16908801, 33619969, 16777729, 65537],
  [4311810561, 4311875841, 4328587521, 8606777601, 1],
  [1108118471169, 2203351842817, 2199023256065, 1099528536065, 4328587777, 8589934593],
  [282578800148993, 282578800214273, 282578816925953, 282583095116033, 283678311776513, 564053776859393, 1],
  [72340177133109761, 72341272366481409, 72621647814722049, 144397766859227137, 72340168543175169, 72339073343225857, 72058697861300737, 282578783371265],
  [18519084246564405761, 18519084250842661121, 18519085346059190273, 18519365721524339201, 18591141840585621761, 36965828320257114113, 18518802771554140673, 18447026648214798593, 72339073326383105],
  [4740885848591169618433, 4740957624710247546881, 4759332311194197361153, 9463252051085349683201, 9444877080927366283777, 4740885285641216196609, 4740813509522171691521, 4722438823046778257409, 18519085346059256321, 36894051097372524545],
  [1213666705181745367548417, 1213666705181745367613697, 1213666705181745384325377, 1213666705181749662515457, 1213666705182844879175937, 1213666705463220344258817, 1213666777239339405476097, 1213685151925819077099777, 1218389071664615012761857, 2422592524796374542254337, 1],
  [310698694973552367073624577, 310703398965068377303875585, 311907602417917558016442881, 620183686347589308328837121, 311907583827339779831300609, 620178963909613993605464065, 310698658080064211064586753, 310693954232100438990192641, 309489750778688308256965121, 1213666704901369902530561, 309489769081598660311056897, 1218388999887396423073793],
  [79538861190790864407636279809, 79538861190790864407636345089, 79538861190790864407653056769, 79538861190790864411931246849, 79538861190790865507147907329, 79538861190791145882612990209, 79538861190862922001674207489, 79538861209237608481345831169, 79538865913157347277281493249, 79540070116610479036810985729, 79848346200612209476361060609, 158767023705055202001180229889, 1],
  [20361948464860908032428597182977, 20361948469564827771224549556225, 20361949673768280902988357239297, 20362257949852282634523123974145, 20441176627356725907423408226817, 40644358068494203769896176779265, 40565438186767716503771242562049, 20361948464824014544281178079233, 20361948460120094805485259129345, 20361947255916641673730007826433, 20361638979832639944385674412545, 20282720302328197232236320325633, 79538861190862922001674207745, 158458742917061392592856416257],
  [5212658806999670161876445271491073, 5212658806999688536562929221370113, 5212658807004392456302820373561345, 5212658808208595909714955368202753, 5212659116484679910881341141549313, 5212738035162184354156444777447425, 5232941216603321760242802763039233, 10404955665534497718350447057699073, 10404876745648085830710148200398849, 10384673254726642522453467927216641, 5212579578837155753423663651750145, 5192376397395999972650834550849537, 20361948460120094806584753979905, 20440867142328529875875011887361, 40644049787687835274008181342209],
  [1334440654591915561440369989501714945, 1334440654591920265360109880670748673, 1334440654593124468813522015648481793, 1334440654901400552887028574243061761, 1334440733820078057257963500746179073, 1334460937001519194664048759253565441, 1339632951450450370621874932849574401, 2663668650376831415825375377722769409, 1334440654591915524546881842082611713, 1334440654591910820627144141380321281, 1334440654590706617174292757299069441, 1334440654282430533244338436793499649, 1334440575363753028729288313658278401, 1334420372182311891323200864750993409, 1329248357733380715364813940191134209, 5212658806999670017761257162080257],
  [341616807575530379006368233343265341953, 341616807575530379006368233343265407233, 341616807575530379006368233343282118913, 341616807575530379006368233347560308993, 341616807575530379006368234442776969473, 341616807575530379006368514818242052353, 341616807575530379006440290937303269633, 341616807575530379024814977416974893313, 341616807575530383728734716212910555393, 341616807575531587932187847972440047873, 341616807575839864016189578411990122753, 341616807654758541520632570936809292033, 341616827857939982658038657290516627713, 341621999872388913833996763839594561793, 342946035571315294879272040403545686273, 681899174496468842469742840775033553153, 1],
  [87453902739415005188144532354948743168513, 87453902759618186629282010218516745093121, 87453907931632635560476343011541166064129, 87455231967331561946225538025801558130689, 87794185106256716698019461956837375541761, 174566188671096333157263988582382080884737, 87455231967252333774266540441002336977409, 87794185085974304676516080248236760170497, 174566183478798855652398270619865025872385, 87453902739256548863116003679753065332737, 87453902719053367421978669368423219266049, 87453897547038918490821085948358074302465, 87452573511339992114479730411689587376641, 87113620372414839771092712744172862373889, 341616807575839864016189579507189940737, 87452573511419220267549261502060274253825, 87113620392697246956892671879068703064577, 341621999872079428805728673601926725633],
  [22388199101269958918561348540384237433455105, 22388199101269958918561348540384237433520385, 22388199101269958918561348540384237450232065, 22388199101269958918561348540384241728422145, 22388199101269958918561348540385336945082625, 22388199101269958918561348540665712410165505, 22388199101269958918561348612441831471382785, 22388199101269958918561366987128311143006465, 22388199101269958918566070906867107078668545, 22388199101269958919770274359998866608161025, 22388199101269959228046358361729306158235905, 22388199101270038146723862804721830977405185, 22388199101290241328165000210808184684740865, 22388199106462255777096176168914733762674945, 22388200430497954703477221444191297713799425, 22388539383636879857024811914991669201666305, 22475311387201719165207972439886770095587585, 44688944299800582060097066813032598939435265, 1],
  [5731378969925109562379867759049446454512976385, 5731378969925129765561313600375272699389345793, 5731378969930301780011448979786791383445012993, 5731378971254337479246106109135574505990717441, 5731379310207476404398449477562101277397221889, 5731466082211041243398351831791123246228766721, 5753679715123640106293236222244531374336770561, 11440369740748949007383640178317012174280654849, 5753679374846465402675664784851311140800692737, 11440282629792224960205233913476416500572160001, 5731378969925109403923542730520771267424944641, 5731378969925089200742106297034424804853219329, 5731378969919917186294379324529730390786703873, 5731378968595881487676274363327960385463582721, 5731378629642742562521522550812886413860667905, 5731291857639177722905058583992118180870946817, 5709078224726578860010164785699234651324940801, 22388199101269958917352422721051083252236289, 5709078565003753563008775648326843475754484225, 22475310057994005481614963212694248742780929],
  [1467233016300828027686836542664987867308558975489, 1467233016300828027686837746868440999072366723329, 1467233016300828027687146022952442730607133327361, 1467233016300828027766064700456886003507417645569, 1467233016300828047969246141594363865980186263809, 1467233016300833219983695072788696659008935690241, 1467233016302157255682621453797006107252629766657, 1467233016641110394607775001405995991870682038529, 1467233103413113959447083184566520886975854018561, 1467255317046026558309978073660894033899914592769, 1472942007071651867211069681820419646459404747009, 2928734653631730945890521370658976461688867389441, 2928712439997489139235024211050933413392651715073, 2923025749631586635427751346651027482445229457665, 1467233015960545660765898069756880294137500270593, 1467232929188542095926588682392902267281355112961, 1467210715555629497063385517214527392108177916161, 1461524025530004188083375231550559347774798692353, 5731378969925089200742101574739998429751083521, 5753592604161723841790330043574313136232202497, 11440282968740191950136813324273310879189041153],
  [375611652173011975087909381875825338753951172002305, 375611652173011975108112563316962744840304896049153, 375611652173011980280127012248138702946858252173825, 375611652173013304315825938629183978224517419958273, 375611652173352257454751092176774449305264372908545, 375611652260124261019590400359935045976484328046593, 375611674473757173618453295249047793808792843518465, 375617361163782798927354386861911238879772804186113, 377073153810342878006033839754953177050642735235585, 749756071329723122147973780373689348793345083768833, 748300256469191172159411982970789449492008911503873, 375611652173011975087750925550796810078764084101121, 375611652173011975067547744109659403992410393477633, 375611652173011969895533295178483445885865593733121, 375611652173010645859834368797438170610396859269633, 375611652172671692720909215249847700090400836485121, 375611652085899689156069907066687246971419003781633, 375611629872266776557207012177611248512069831557121, 375605943182241151248305920574155642918681742213633, 374150150535681072169626470089520611011330870149121, 1467233016300828027687146022952442729507621765633, 2923047876832778016247703058479646287078159810561],
  [96156582956291065622484519350607635050587552764461569, 96156582956291065622484519350607635050587552764526849, 96156582956291065622484519350607635050587552781238529, 96156582956291065622484519350607635050587557059428609, 96156582956291065622484519350607635050588652276089089, 96156582956291065622484519350607635050869027741171969, 96156582956291065622484519350607635122645146802389249, 96156582956291065622484519350607653497331626474012929, 96156582956291065622484519350612357417070422409675009, 96156582956291065622484519351816560870202181939167489, 96156582956291065622484519660092644871932621489242369, 96156582956291065622484598578770149314925146308411649, 96156582956291065622504801760211286721011500015747329, 96156582956291065627676816209142462679118049093681409, 96156582956291066951712515135523507954394613044805889, 96156582956291405904851440289071098425194984532672769, 96156582956378177908416279597254258950090085426594049, 96156582978591810821015142492143353323235914270441729, 96156588665281836446324043583751512848568098295447809, 96158044457928396525402723035440351333607208697004289, 96530727375447776769544662667783003503619471495463169, 191937554260409119269881208547501959026758747900936449, 1],
  [24616085236810513139638403953922180569036384085995553281, 24616085236810599911641988996411809570958881550827061249, 24616085236832813544559759873756834044742983109461410305, 24616085242519503571509104474083099333473263607749935105, 24616086698312150130264147375070759584078824402984174081, 24616459381229669511832304810448037440198570650250510337, 24711866208114630853003433563723077456842913950801723905, 49136013890664734533089569105441412849430526941206740993, 24616086698312149789971395939643389016748815432586101249, 24616459381229582396887937341041172166966338327670816769, 24711866208092330107799710802181749791037300469405909505, 49136013884955743760936542150861530421568443654214778881, 24616085236810512459073670112045253605393681075040027137, 24616085236810425687070125475918506878426910746212368385, 24616085236788212054162698627471344756558457128100037121, 24616085231101522029861425424997841558234612379238400001, 24616083775308875468458310967701094188406273238538191361, 24615711092391356089538184523813696148025472552078934017, 24520304265506394745708640185331706660529800818878185985, 96156582956291065622464237250488993273565168781033473, 24616083775308875808730293374150650474038502836838334977, 24615711092391443199165680574900105233126313816242651137, 24520304265528695490901978670068614727991025543795507713, 96156588665281835117116329898954281722062697951920129]]
def dlAll : List (List (Nat × Nat)) := [[],
  [],
  [(256, 1)],
  [(65536, 257)],
  [(256, 1), (65536, 257)],
  [(4294967296, 16843009)],
  [(256, 1), (65536, 257), (65536, 257)],
  [(281474976710656, 1103823438081)],
  [(256, 1), (65536, 257), (4294967296, 16843009)],
  [(65536, 257), (281474976710656, 1103823438081)],
  [(256, 1), (4294967296, 16843009), (4294967296, 16843009)],
  [(1208925819614629174706176, 4740885567116192841985)],
  [(256, 1), (65536, 257), (65536, 257), (65536, 257), (4294967296, 16843009)],
  [(79228162514264337593543950336, 310698676526526814092329217)],
  [(256, 1), (281474976710656, 1103823438081), (281474976710656, 1103823438081)],
  [(65536, 257), (4294967296, 16843009), (18446744073709551616, 72340172838076673)],
  [(256, 1), (65536, 257), (4294967296, 16843009), (18446744073709551616, 72340172838076673)],
  [(340282366920938463463374607431768211456, 1334440654591915542993625911497130241)],
  [(256, 1), (65536, 257), (65536, 257), (281474976710656, 1103823438081), (281474976710656, 1103823438081)],
  [(22300745198530623141535718272648361505980416, 87453902739335777025630267735875927474433)],
  [(256, 1), (65536, 257), (4294967296, 16843009), (4294967296, 16843009), (18446744073709551616, 72340172838076673)],
  [(65536, 257), (281474976710656, 1103823438081), (79228162514264337593543950336, 310698676526526814092329217)],
  [(256, 1), (1208925819614629174706176, 4740885567116192841985), (1208925819614629174706176, 4740885567116192841985)],
  [(95780971304118053647396689196894323976171195136475136, 375611652173011975087830153713311074416357627986177)],
  [(256, 1), (65536, 257), (65536, 257), (65536, 257), (4294967296, 16843009), (4294967296, 16843009), (18446744073709551616, 72340172838076673)]]
def tab (n : Nat) : List Nat := tabAll.getD n []
def dl (n : Nat) : List (Nat × Nat) := dlAll.getD n []
def deg (s : Nat) : Nat := (cyc s).length - 1
def divs (n : Nat) : List Nat := (List.range (n + 1)).filter fun s => decide (2 ≤ s) && decide (n % s = 0)
theorem mem_divs {n s : Nat} : s ∈ divs n ↔ s ≤ n ∧ 2 ≤ s ∧ n % s = 0 := by
  unfold divs
  rw [List.mem_filter, List.mem_range]
  simp only [Bool.and_eq_true, decide_eq_true_eq]
  omega
/-- The packed digits of x^k. -/
def digs (n k : Nat) : List Nat := 1 :: (divs n).flatMap fun s => (List.range (deg s)).map fun (t : Nat) => (rd (rest n s k) (t : Int) + 1).toNat
/-! The division again, from the highest coefficient down (what the kernel computes). -/
def subR : List Int → Int → List Int → List Int
  | x :: l, c, g :: gs => wrap64 (x - wrap64 (c * g)) :: subR l c gs
  | l, _, [] => l
  | [], _, _ :: _ => []
def outrR (gr : List Int) : Nat → List Int → List Int
  | 0, l => l
  | m + 1, c :: l => outrR gr m (subR l c gr)
  | _ + 1, [] => []
def lst (f : List Int) : Nat → List Int
  | 0 => []
  | N + 1 => rd f (N : Int) :: lst f N
theorem lst_congr {f g : List Int} : ∀ N, (∀ t : Nat, t < N → rd f (t : Int) = rd g (t : Int)) → lst f N = lst g N := by
  intro N
  induction N with
  | zero => intro _; rfl
  | succ N ih => intro h; rw [lst, lst, h N (by omega), ih (fun t ht => h t (by omega))]
theorem subR_lst (g f : List Int) (m d : Nat) (c : Int) (hm : m + d + 1 ≤ f.length) : ∀ i, i ≤ d → subR (lst f (m + i)) c (lst g i) = lst (inn g m c (d + 1) 0 f) (m + i) := by
  intro i
  induction i with
  | zero =>
    intro _
    have h : subR (lst f m) c [] = lst f m := by cases lst f m <;> rfl
    show subR (lst f m) c [] = _
    rw [h]
    refine lst_congr _ (fun t ht => ?_)
    rw [inn_rd _ _ _ _ _ _ _ (by omega), if_neg (by omega)]
  | succ i ih =>
    intro hi
    show subR (rd f ((m + i : Nat) : Int) :: lst f (m + i)) c (rd g (i : Int) :: lst g i) = rd (inn g m c (d + 1) 0 f) ((m + i : Nat) : Int) :: lst (inn g m c (d + 1) 0 f) (m + i)
    rw [subR, ih (by omega), inn_rd _ _ _ _ _ _ _ (by omega), if_pos (by omega), show m + i - m = i from by omega]
theorem outrR_lst (g : List Int) (d : Nat) : ∀ m f, d + m ≤ f.length → outrR (lst g d) m (lst f (d + m)) = lst (outr g d m f) d := by
  intro m
  induction m with
  | zero => intro f _; rfl
  | succ m ih =>
    intro f h
    show outrR (lst g d) m (subR (lst f (d + m)) (rd f ((d + m : Nat) : Int)) (lst g d)) = _
    rw [show d + m = m + d from by omega, subR_lst g f m d _ (by omega) d (Nat.le_refl _), show m + d = d + m from by omega, ih _ (by rw [inn_length]; omega), outr]
def ulst (k : Nat) : Nat → List Int
  | 0 => []
  | N + 1 => (if N = k then 1 else 0) :: ulst k N
theorem ulst_eq (n k : Nat) : ∀ N, N ≤ n → ulst k N = lst (unit n k) N := by
  intro N
  induction N with
  | zero => intro _; rfl
  | succ N ih => intro h; rw [ulst, lst, ih (by omega), unit_rd n k N (by omega)]
def restR (n s k : Nat) : List Int := outrR (lst (cyc s) (deg s)) (n - deg s) (ulst k n)
theorem restR_eq (n s k : Nat) (hd : deg s ≤ n) : restR n s k = lst (rest n s k) (deg s) := by
  have h := outrR_lst (cyc s) (deg s) (n - deg s) (unit n k) (by simp [unit]; omega)
  rw [show deg s + (n - deg s) = n from by omega, ← ulst_eq n k n (Nat.le_refl _)] at h
  exact h
theorem lst_rev (f : List Int) (h : Int → Nat) : ∀ N, ((lst f N).map h).reverse = (List.range N).map fun (t : Nat) => h (rd f (t : Int)) := by
  intro N
  induction N with
  | zero => rfl
  | succ N ih => rw [lst, List.map_cons, List.reverse_cons, ih, List.range_succ, List.map_append]; rfl
theorem lst_mem (f : List Int) : ∀ N (t : Nat), t < N → rd f (t : Int) ∈ lst f N := by
  intro N
  induction N with
  | zero => intro t h; omega
  | succ N ih =>
    intro t h
    rw [lst]
    by_cases e : t = N
    · subst e; simp
    · exact List.mem_cons_of_mem _ (ih t (by omega))

def digR (n k : Nat) (ds : List Nat) : List Nat := 1 :: ds.flatMap fun s => ((restR n s k).map fun x => (x + 1).toNat).reverse
def tabOK (n : Nat) : Bool := (fun ds => decide (tab n = (List.range n).map (fun k => packL (digR n k ds))) && decide (dl n = ds.map (fun s => (256 ^ deg s, packL (List.replicate (deg s) 1)))) &&
    ds.all (fun s => decide (1 ≤ deg s) && decide (deg s ≤ n) && decide (rd (cyc s) (deg s : Int) = 1) && (List.range n).all fun k => (restR n s k).all fun x => decide (-1 ≤ x) && decide (x ≤ 1))) (divs n)
theorem tab_all : ((List.range 25).drop 2).all tabOK = true := by decide +kernel
theorem tab_at (n : Nat) (h2 : 2 ≤ n) (hn : n ≤ 24) : tab n = (List.range n).map (fun k => packL (digs n k)) ∧ dl n = (divs n).map (fun s => (256 ^ deg s, packL (List.replicate (deg s) 1))) ∧
    ∀ s ∈ divs n, 1 ≤ deg s ∧ deg s ≤ n ∧ rd (cyc s) (deg s : Int) = 1 ∧ ∀ t, t < n → ∀ k, k < n → -1 ≤ rd (rest n s k) (t : Int) ∧ rd (rest n s k) (t : Int) ≤ 1 := by
  have hm : n ∈ (List.range 25).drop 2 := by
    rw [List.mem_iff_getElem]
    exact ⟨n - 2, by simp; omega, by simp; omega⟩
  have h := List.all_eq_true.mp tab_all n hm
  unfold tabOK at h
  simp only [Bool.and_eq_true, decide_eq_true_eq, List.all_eq_true] at h
  have hd : ∀ s ∈ divs n, 1 ≤ deg s ∧ deg s ≤ n ∧ rd (cyc s) (deg s : Int) = 1 := fun s hs => ⟨(h.2 s hs).1.1.1, (h.2 s hs).1.1.2, (h.2 s hs).1.2⟩
  refine ⟨?_, h.1.2, fun s hs => ?_⟩
  · rw [h.1.1]
    refine List.map_congr_left (fun k hk => ?_)
    congr 1
    unfold digR digs
    congr 1
    have : ∀ ds : List Nat, (∀ s ∈ ds, deg s ≤ n) → (ds.flatMap fun s => ((restR n s k).map fun x => (x + 1).toNat).reverse) = ds.flatMap fun s => (List.range (deg s)).map fun (t : Nat) => (rd (rest n s k) (t : Int) + 1).toNat := by
      intro ds
      induction ds with
      | nil => intro _; rfl
      | cons s ds ih =>
        intro h
        rw [List.flatMap_cons, List.flatMap_cons, ih (fun s' hs' => h s' (by simp [hs'])), restR_eq n s k (h s (by simp)), lst_rev]
    exact this _ (fun s hs => (hd s hs).2.1)
  · obtain ⟨h6, h7, h8⟩ := hd s hs
    refine ⟨h6, h7, h8, fun t ht k hk => ?_⟩
    by_cases htd : t < deg s
    · have h4 := (h.2 s hs).2 k (List.mem_range.mpr hk)
      rw [restR_eq n s k h7] at h4
      exact h4 _ (lst_mem _ _ _ htd)
    · have hz : rd (rest n s k) (t : Int) = 0 := outr_zero (cyc s) (deg s) h8 (n - deg s) (unit n k) (by simp [unit]; omega) t (by omega) (by omega)
      rw [hz]
      decide

theorem addL_app : ∀ (l l' m m' : List Nat), l.length = l'.length → addL (l ++ m) (l' ++ m') = addL l l' ++ addL m m' := by
  intro l
  induction l with
  | nil => intro l' m m' h; cases l' with | nil => rfl | cons _ _ => simp at h
  | cons x l ih =>
    intro l' m m' h
    cases l' with
    | nil => simp at h
    | cons y l' => simp only [List.cons_append, addL]; rw [ih l' m m' (by simpa using h)]
theorem addL_map (l : List Nat) (f g : Nat → Nat) : addL (l.map f) (l.map g) = l.map fun t => f t + g t := by
  induction l with
  | nil => rfl
  | cons x l ih => simp only [List.map_cons, addL, ih]
theorem addL_flat (ds : List Nat) (f g : Nat → Nat → Nat) : addL (ds.flatMap fun s => (List.range (deg s)).map (f s)) (ds.flatMap fun s => (List.range (deg s)).map (g s)) = ds.flatMap fun s => (List.range (deg s)).map fun t => f s t + g s t := by
  induction ds with
  | nil => rfl
  | cons s ds ih =>
    simp only [List.flatMap_cons]
    rw [addL_app _ _ _ _ (by simp), addL_map, ih]
theorem flat_length (ds : List Nat) (f g : Nat → Nat → Nat) : (ds.flatMap fun s => (List.range (deg s)).map (f s)).length = (ds.flatMap fun s => (List.range (deg s)).map (g s)).length := by
  induction ds with
  | nil => rfl
  | cons s ds ih => simp only [List.flatMap_cons, List.length_append, List.length_map]; rw [ih]

/-- The digits' sums over the first m beats. -/
def dS (n s a t : Nat) : Nat → Nat
  | 0 => 0
  | m + 1 => dS n s a t m + (if a.testBit m = true then (rd (rest n s m) (t : Int) + 1).toNat else 0)
def cS (a : Nat) : Nat → Nat
  | 0 => 0
  | m + 1 => cS a m + (if a.testBit m = true then 1 else 0)
theorem cS_le (a : Nat) : ∀ m, cS a m ≤ m := by
  intro m
  induction m with
  | zero => exact Nat.le_refl _
  | succ m ih => rw [cS]; split <;> omega
theorem dS_rest {n s a t : Nat} (h : ∀ k, k < n → -1 ≤ rd (rest n s k) (t : Int) ∧ rd (rest n s k) (t : Int) ≤ 1) : ∀ m, m ≤ n → (dS n s a t m : Int) = restS n s a t m + cS a m ∧ dS n s a t m ≤ 2 * m := by
  intro m
  induction m with
  | zero => intro _; exact ⟨rfl, Nat.le_refl _⟩
  | succ m ih =>
    intro hm
    have h1 := ih (by omega)
    have h2 := h m (by omega)
    rw [dS, restS, cS]
    split <;> omega
/-- The packed sum over the first m beats. -/
def blocks (n a m : Nat) : List Nat := cS a m :: (divs n).flatMap fun s => (List.range (deg s)).map fun t => dS n s a t m
theorem blocks_succ (n a m : Nat) : packL (blocks n a (m + 1)) = packL (blocks n a m) + (if a.testBit m = true then packL (digs n m) else 0) := by
  by_cases h : a.testBit m = true
  · rw [if_pos h, ← packL_add _ _ (by unfold blocks digs; simp only [List.length_cons]; rw [flat_length])]
    congr 1
    unfold blocks digs
    rw [addL, addL_flat, cS, if_pos h]
    congr 1
    congr 1
    funext s
    congr 1
    funext t
    rw [dS, if_pos h]
  · rw [if_neg h, Nat.add_zero]
    unfold blocks
    rw [cS, if_neg h]
    congr 2
    congr 1
    funext s
    congr 1
    funext t
    rw [dS, if_neg h]
    rfl
theorem packL_zero : ∀ l : List Nat, (∀ x ∈ l, x = 0) → packL l = 0 := by
  intro l
  induction l with
  | nil => intro _; rfl
  | cons x l ih => intro h; rw [packL, h x (by simp), ih (fun y hy => h y (by simp [hy]))]
theorem blocks_zero (n a : Nat) : packL (blocks n a 0) = 0 := by
  refine packL_zero _ (fun x hx => ?_)
  unfold blocks at hx
  rcases List.mem_cons.mp hx with rfl | hx
  · rfl
  · obtain ⟨s, _, hx⟩ := List.mem_flatMap.mp hx
    obtain ⟨t, _, rfl⟩ := List.mem_map.mp hx
    rfl

/-- The sum of a table over a rhythm's beats. -/
noncomputable def sumT (l : List Nat) : Nat → Nat → Nat := List.rec (motive := fun _ => Nat → Nat → Nat) (fun _ acc => acc) (fun c _ ih b acc => ih (Nat.div b 2) (Nat.add acc (Nat.mul (Nat.mod b 2) c))) l
theorem sumT_eq (n a : Nat) : ∀ j m, m + j = n → ∀ acc, acc = packL (blocks n a m) → sumT ((List.range' m j).map (fun k => packL (digs n k))) (a / 2 ^ m) acc = packL (blocks n a n) := by
  intro j
  induction j with
  | zero =>
    intro m hm acc h
    obtain rfl : m = n := by omega
    exact h
  | succ j ih =>
    intro m hm acc h
    rw [List.range'_succ, List.map_cons]
    show sumT ((List.range' (m + 1) j).map (fun k => packL (digs n k))) (a / 2 ^ m / 2) (acc + (a / 2 ^ m % 2) * packL (digs n m)) = _
    rw [Nat.div_div_eq_div_mul, ← Nat.pow_succ]
    refine ih (m + 1) (by omega) _ ?_
    rw [blocks_succ, h]
    congr 1
    rw [Nat.testBit_eq_decide_div_mod_eq]
    rcases Nat.mod_two_eq_zero_or_one (a / 2 ^ m) with h1 | h1 <;> rw [h1] <;> simp

/-- Which blocks are c each. -/
def zl (c : Nat) : List (Nat × Nat) → Nat → List Bool
  | [], _ => []
  | p :: l, N => Nat.beq (Nat.mod N p.1) (Nat.mul c p.2) :: zl c l (Nat.div N p.1)
theorem packL_rep (c : Nat) : ∀ d, packL (List.replicate d c) = c * packL (List.replicate d 1) := by
  intro d
  induction d with
  | zero => rfl
  | succ d ih => rw [List.replicate_succ, List.replicate_succ, packL, packL, ih, Nat.mul_add, Nat.mul_one, Nat.mul_left_comm]
theorem zl_eq (c : Nat) (hc : c < 256) (f : Nat → Nat → Nat) : ∀ ds : List Nat, (∀ s ∈ ds, ∀ t, t < deg s → f s t < 256) → zl c (ds.map (fun s => (256 ^ deg s, packL (List.replicate (deg s) 1)))) (packL (ds.flatMap fun s => (List.range (deg s)).map (f s))) = ds.map fun s => decide (∀ t, t < deg s → f s t = c) := by
  intro ds
  induction ds with
  | nil => intro _; rfl
  | cons s ds ih =>
    intro h
    have h0 : ∀ x ∈ (List.range (deg s)).map (f s), x < 256 := by
      intro x hx
      obtain ⟨t, ht, rfl⟩ := List.mem_map.mp hx
      exact h s (by simp) t (List.mem_range.mp ht)
    have h1 := packL_lt _ h0
    have hlen : ((List.range (deg s)).map (f s)).length = deg s := by simp
    simp only [List.map_cons, List.flatMap_cons, zl]
    rw [packL_app, hlen]
    rw [hlen] at h1
    have e1 : (packL ((List.range (deg s)).map (f s)) + 256 ^ deg s * packL (ds.flatMap fun s => (List.range (deg s)).map (f s))).mod (256 ^ deg s) = packL ((List.range (deg s)).map (f s)) := by
      exact (Nat.add_mul_mod_self_left _ _ _).trans (Nat.mod_eq_of_lt h1)
    have e2 : (packL ((List.range (deg s)).map (f s)) + 256 ^ deg s * packL (ds.flatMap fun s => (List.range (deg s)).map (f s))).div (256 ^ deg s) = packL (ds.flatMap fun s => (List.range (deg s)).map (f s)) := by
      refine (Nat.add_mul_div_left _ _ (Nat.pow_pos (by decide))).trans ?_
      rw [Nat.div_eq_of_lt h1, Nat.zero_add]
    rw [e1, e2, ih (fun s' hs' => h s' (by simp [hs']))]
    congr 1
    have h2 := packL_same _ c h0 hc
    rw [hlen, packL_rep] at h2
    have h3 : (∀ x ∈ (List.range (deg s)).map (f s), x = c) ↔ ∀ t, t < deg s → f s t = c := by simp
    rw [h3] at h2
    by_cases hd : ∀ t, t < deg s → f s t = c
    · rw [decide_eq_true hd]
      rw [show Nat.mul c (packL (List.replicate (deg s) 1)) = c * packL (List.replicate (deg s) 1) from rfl, ← h2.mpr hd]
      exact Nat.beq_refl _
    · rw [decide_eq_false hd]
      cases hb : Nat.beq (packL ((List.range (deg s)).map (f s))) (Nat.mul c (packL (List.replicate (deg s) 1))) with
      | false => rfl
      | true => exact absurd (h2.mp (Nat.eq_of_beq_eq_true hb)) hd

/-- Which divisors are roots. -/
noncomputable def zb (n a : Nat) : List Bool := (fun N => zl (Nat.mod N 256) (dl n) (Nat.div N 256)) (sumT (tab n) a 0)
theorem cS_bits (n a : Nat) : cS a n = (bitsL n a).length := by
  induction n with
  | zero => rfl
  | succ n ih =>
    unfold bitsL at ih ⊢
    rw [cS, ih, List.range_succ, List.filter_append, List.length_append]
    by_cases h : a.testBit n = true
    · rw [if_pos h]; simp [h]
    · rw [if_neg h]; simp [h]
theorem zb_eq (n a : Nat) (h2 : 2 ≤ n) (hn : n ≤ 24) (ha : a < 2 ^ n) : zb n a = (divs n).map (fun s => isR n (a : Int) s) := by
  obtain ⟨h3, h4, h5⟩ := tab_at n h2 hn
  have hs := sumT_eq n a n 0 (by omega) 0 (blocks_zero n a).symm
  rw [Nat.pow_zero, Nat.div_one, ← List.range_eq_range', ← h3] at hs
  unfold zb
  rw [hs]
  dsimp only
  have hd : ∀ s ∈ divs n, ∀ t, t < deg s → dS n s a t n < 256 := by
    intro s hs t ht
    have h6 := h5 s hs
    have := (dS_rest (a := a) (fun k hk => h6.2.2.2 t (by omega) k hk) n (Nat.le_refl _)).2
    omega
  have hc : cS a n < 256 := by have := cS_le a n; omega
  have e1 : (packL (blocks n a n)).mod 256 = cS a n := by show packL (blocks n a n) % 256 = _; unfold blocks; rw [packL]; omega
  have e2 : (packL (blocks n a n)).div 256 = packL ((divs n).flatMap fun s => (List.range (deg s)).map fun t => dS n s a t n) := by show packL (blocks n a n) / 256 = _; unfold blocks; rw [packL]; omega
  rw [e1, e2, h4, zl_eq (cS a n) hc (fun s t => dS n s a t n) (divs n) hd]
  refine List.map_congr_left (fun s hs => ?_)
  have h6 := h5 s hs
  have h7 := isR_iff n s a hn ha h6.1 h6.2.1 h6.2.2.1 h6.2.2.2
  by_cases hr : isR n (a : Int) s = true
  · rw [hr, decide_eq_true]
    intro t ht
    have h8 := h7.mp hr t ht
    have := (dS_rest (a := a) (fun k hk => h6.2.2.2 t (by unfold deg at *; omega) k hk) n (Nat.le_refl _)).1
    omega
  · rw [Bool.not_eq_true _ |>.mp hr, decide_eq_false]
    intro h
    refine hr (h7.mpr fun t ht => ?_)
    have h8 := h t ht
    have := (dS_rest (a := a) (fun k hk => h6.2.2.2 t (by unfold deg at *; omega) k hk) n (Nat.le_refl _)).1
    omega
end Go.Proofs.YtknlablmkcabkaaDoor.Pa
