/-
  What the proof leans on, part 6: of the texts Tab, Lw8, Lw9, Lw11, Lw12, Lw13, Lw15, Lw17, BaseM, BaseC, TaA, RemoteSpec, RemotePlain, MailA, MailB.
-/
import Derived.Test.YtblibdfcnplfhaaGreatPkE
set_option linter.unusedVariables false
set_option linter.unusedSimpArgs false
set_option linter.unusedSectionVars false
section
namespace Go.Proofs.YtblibdfcnplfhaaGreat
open Go Go.Tum
def isTmpR:RV→Bool
 | .tmp _=>true
 | _=>false
theorem rowKit {k np:Nat} {res:List RV} {m:MC} {fn:Func} (e:EOk k np m fn) (h1:callable Tryz.prog k=true:=by kernel_rfl) (h2:Nat.ble res.length 4=true:=by exact rfl) (h3:fn.results=(res.map RV.real).toArray:=by exact rfl) (h4:res.all isTmpR=true:=by exact rfl):FnRow.Ok Tryz.prog ⟨k,np,res,m⟩ :=
 ⟨h1,fn,Nat.le_of_ble_eq_true h2,h3,fun r hr=>(by have:=List.all_eq_true.1 h4 r hr; cases r with | tmp _=>exact trivial | cell _ _ _=>cases this),fun _ _ _ hn h=>e hn h⟩
def Rw192:FnRow:=⟨3,140,[(.tmp 12)],Mc192⟩
def Rw189:FnRow:=⟨4,172,[(.tmp 4)],Mc189⟩
def Rw190:FnRow:=⟨5,241,[(.tmp 10)],Mc190⟩
def Rw193:FnRow:=⟨6,42,[(.tmp 4)],Mc193⟩
def Rw191:FnRow:=⟨7,178,[(.tmp 6)],Mc191⟩
def Rw194:FnRow:=⟨8,57,[(.tmp 4)],Mc194⟩
def Rw195:FnRow:=⟨9,117,[(.tmp 4)],Mc195⟩
def Rw134:FnRow:=⟨10,116,[(.tmp 4)],Mc134⟩
theorem Ro134:Rw134.Ok Tryz.prog:=rowKit Ec134
def Rw185:FnRow:=⟨11,39,[(.tmp 2)],Mc185⟩
def Rw131:FnRow:=⟨12,23,[(.cell 2 24 6)],Mc131⟩
theorem Ro131:Rw131.Ok Tryz.prog:=⟨(by kernel_rfl:callable Tryz.prog 12=true),Tryz.f12,Nat.le_of_ble_eq_true rfl,rfl,fun r hr=>(by rcases List.mem_cons.1 hr with rfl | hr; exact (by show aggT Tryz.prog 24=some 6; kernel_rfl); exact (by cases hr)),fun _ _ _ hn h=>Ec131 hn h⟩
def Rw187:FnRow:=⟨13,212,[(.tmp 4)],Mc187⟩
def Rw132:FnRow:=⟨14,57,[(.tmp 0)],Mc132⟩
theorem Ro132:Rw132.Ok Tryz.prog:=rowKit Ec132
def Rw107:FnRow:=⟨15,28,[(.tmp 6),(.tmp 7)],Mc107⟩
theorem Ro107:Rw107.Ok Tryz.prog:=rowKit Ec107
def Rw115:FnRow:=⟨16,22,[(.tmp 2)],Mc115⟩
theorem Ro115:Rw115.Ok Tryz.prog:=rowKit Ec115
def Rw113:FnRow:=⟨17,9,[(.tmp 2)],Mc113⟩
theorem Ro113:Rw113.Ok Tryz.prog:=rowKit Ec113
def Rw112:FnRow:=⟨18,12,[(.tmp 2)],Mc112⟩
theorem Ro112:Rw112.Ok Tryz.prog:=rowKit Ec112
def Rw183:FnRow:=⟨19,9,[(.tmp 2)],Mc183⟩
def Rw154:FnRow:=⟨20,62,[(.tmp 2)],Mc154⟩
def Rw72:FnRow:=⟨21,73,[(.cell 4 55 6),(.tmp 5)],Mc72⟩
theorem Ro72:Rw72.Ok Tryz.prog:=⟨(by kernel_rfl:callable Tryz.prog 21=true),Tryz.f21,Nat.le_of_ble_eq_true rfl,rfl,fun r hr=>(by rcases List.mem_cons.1 hr with rfl | hr; exact (by show aggT Tryz.prog 55=some 6; kernel_rfl); exact (by rcases List.mem_cons.1 hr with rfl | hr; exact trivial; exact (by cases hr))),fun _ _ _ hn h=>Ec72 hn h⟩
def Rw69:FnRow:=⟨22,9,[(.tmp 2)],Mc69⟩
theorem Ro69:Rw69.Ok Tryz.prog:=rowKit Ec69
def Rw144:FnRow:=⟨23,26,[(.tmp 6),(.tmp 7)],Mc144⟩
def Rw114:FnRow:=⟨24,9,[(.tmp 2)],Mc114⟩
theorem Ro114:Rw114.Ok Tryz.prog:=rowKit Ec114
def Rw109:FnRow:=⟨25,9,[(.tmp 2)],Mc109⟩
theorem Ro109:Rw109.Ok Tryz.prog:=rowKit Ec109
def Rw186:FnRow:=⟨26,34,[(.tmp 2)],Mc186⟩
def Rw179:FnRow:=⟨27,42,[(.tmp 2)],Mc179⟩
def Rw106:FnRow:=⟨28,54,[(.tmp 2),(.tmp 3)],Mc106⟩
theorem Ro106:Rw106.Ok Tryz.prog:=rowKit Ec106
def Rw130:FnRow:=⟨29,17,[(.cell 2 84 6)],Mc130⟩
theorem Ro130:Rw130.Ok Tryz.prog:=⟨(by kernel_rfl:callable Tryz.prog 29=true),Tryz.f29,Nat.le_of_ble_eq_true rfl,rfl,fun r hr=>(by rcases List.mem_cons.1 hr with rfl | hr; exact (by show aggT Tryz.prog 84=some 6; kernel_rfl); exact (by cases hr)),fun _ _ _ hn h=>Ec130 hn h⟩
def Rw253:FnRow:=⟨30,18,[(.tmp 6)],Mc253⟩
def Rw108:FnRow:=⟨31,36,[(.tmp 6),(.tmp 7)],Mc108⟩
theorem Ro108:Rw108.Ok Tryz.prog:=rowKit Ec108
def Rw182:FnRow:=⟨32,16,[(.tmp 4)],Mc182⟩
def Rw180:FnRow:=⟨33,9,[(.tmp 2)],Mc180⟩
def Rw181:FnRow:=⟨34,9,[(.tmp 2)],Mc181⟩
def Rw111:FnRow:=⟨35,9,[(.tmp 2)],Mc111⟩
theorem Ro111:Rw111.Ok Tryz.prog:=rowKit Ec111
def Rw133:FnRow:=⟨36,41,[(.tmp 2)],Mc133⟩
theorem Ro133:Rw133.Ok Tryz.prog:=rowKit Ec133
def Rw196:FnRow:=⟨37,101,[(.tmp 4)],Mc196⟩
def Rw198:FnRow:=⟨38,42,[(.tmp 4)],Mc198⟩
def Rw32:FnRow:=⟨39,29,[(.tmp 2)],Mc32⟩
theorem Ro32:Rw32.Ok Tryz.prog:=rowKit Ec32
def Rw264:FnRow:=⟨40,33,[(.tmp 2)],Mc264⟩
def Rw30:FnRow:=⟨41,10,[(.tmp 2)],Mc30⟩
theorem Ro30:Rw30.Ok Tryz.prog:=rowKit Ec30
def Rw135:FnRow:=⟨42,44,[(.tmp 0)],Mc135⟩
theorem Ro135:Rw135.Ok Tryz.prog:=rowKit Ec135
def Rw34:FnRow:=⟨43,36,[(.tmp 4)],Mc34⟩
theorem Ro34:Rw34.Ok Tryz.prog:=rowKit Ec34
def Rw37:FnRow:=⟨44,20,[(.tmp 2),(.tmp 3)],Mc37⟩
theorem Ro37:Rw37.Ok Tryz.prog:=rowKit Ec37
def Rw31:FnRow:=⟨45,15,[(.tmp 6)],Mc31⟩
theorem Ro31:Rw31.Ok Tryz.prog:=rowKit Ec31
def Rw29:FnRow:=⟨46,15,[(.tmp 6)],Mc29⟩
theorem Ro29:Rw29.Ok Tryz.prog:=rowKit Ec29
def Rw35:FnRow:=⟨47,79,[(.tmp 4)],Mc35⟩
theorem Ro35:Rw35.Ok Tryz.prog:=rowKit Ec35
def Rw28:FnRow:=⟨48,30,[(.tmp 4)],Mc28⟩
theorem Ro28:Rw28.Ok Tryz.prog:=rowKit Ec28
def Rw33:FnRow:=⟨49,9,[(.tmp 2)],Mc33⟩
theorem Ro33:Rw33.Ok Tryz.prog:=rowKit Ec33
def Rw143:FnRow:=⟨50,30,[(.tmp 12)],Mc143⟩
theorem Ro143:Rw143.Ok Tryz.prog:=rowKit Ec143
def Rw254:FnRow:=⟨51,116,[],Mc254⟩
def Rw188:FnRow:=⟨52,28,[(.tmp 4)],Mc188⟩
def Rw251:FnRow:=⟨53,9,[(.tmp 4)],Mc251⟩
def Rw252:FnRow:=⟨54,9,[(.tmp 4)],Mc252⟩
def Rw110:FnRow:=⟨55,20,[(.tmp 4)],Mc110⟩
theorem Ro110:Rw110.Ok Tryz.prog:=rowKit Ec110
def Rw121:FnRow:=⟨56,104,[],Mc121⟩
theorem Ro121:Rw121.Ok Tryz.prog:=rowKit Ec121
def Rw78:FnRow:=⟨57,9,[(.tmp 2)],Mc78⟩
theorem Ro78:Rw78.Ok Tryz.prog:=rowKit Ec78
def Rw58:FnRow:=⟨58,10,[(.tmp 2)],Mc58⟩
theorem Ro58:Rw58.Ok Tryz.prog:=rowKit Ec58
def Rw83:FnRow:=⟨59,13,[(.tmp 4)],Mc83⟩
theorem Ro83:Rw83.Ok Tryz.prog:=rowKit Ec83
def Rw18:FnRow:=⟨60,9,[(.tmp 2)],Mc18⟩
theorem Ro18:Rw18.Ok Tryz.prog:=rowKit Ec18
def Rw91:FnRow:=⟨61,9,[(.tmp 2)],Mc91⟩
theorem Ro91:Rw91.Ok Tryz.prog:=rowKit Ec91
def Rw97:FnRow:=⟨62,35,[(.tmp 4)],Mc97⟩
theorem Ro97:Rw97.Ok Tryz.prog:=rowKit Ec97
def Rw82:FnRow:=⟨63,23,[(.cell 6 55 6)],Mc82⟩
theorem Ro82:Rw82.Ok Tryz.prog:=⟨(by kernel_rfl:callable Tryz.prog 63=true),Tryz.f63,Nat.le_of_ble_eq_true rfl,rfl,fun r hr=>(by rcases List.mem_cons.1 hr with rfl | hr; exact (by show aggT Tryz.prog 55=some 6; kernel_rfl); exact (by cases hr)),fun _ _ _ hn h=>Ec82 hn h⟩
def Rw1:FnRow:=⟨64,10,[(.tmp 2)],Mc1⟩
theorem Ro1:Rw1.Ok Tryz.prog:=rowKit Ec1
def Rw17:FnRow:=⟨65,24,[(.tmp 4),(.tmp 5)],Mc17⟩
theorem Ro17:Rw17.Ok Tryz.prog:=rowKit Ec17
def Rw57:FnRow:=⟨66,19,[(.tmp 4),(.tmp 5)],Mc57⟩
theorem Ro57:Rw57.Ok Tryz.prog:=rowKit Ec57
def Rw41:FnRow:=⟨67,13,[(.tmp 4)],Mc41⟩
theorem Ro41:Rw41.Ok Tryz.prog:=rowKit Ec41
def Rw4:FnRow:=⟨68,37,[(.tmp 6)],Mc4⟩
theorem Ro4:Rw4.Ok Tryz.prog:=rowKit Ec4
def Rw145:FnRow:=⟨69,8,[(.tmp 2)],Mc145⟩
def Rw155:FnRow:=⟨70,45,[(.tmp 2)],Mc155⟩
def Rw152:FnRow:=⟨71,27,[(.tmp 2)],Mc152⟩
def Rw163:FnRow:=⟨72,11,[],Mc163⟩
def Rw153:FnRow:=⟨73,31,[(.tmp 2)],Mc153⟩
def Rw161:FnRow:=⟨74,26,[(.tmp 4)],Mc161⟩
def Rw184:FnRow:=⟨75,43,[(.tmp 2)],Mc184⟩
def Rw68:FnRow:=⟨76,59,[(.tmp 2),(.tmp 3)],Mc68⟩
theorem Ro68:Rw68.Ok Tryz.prog:=rowKit Ec68
def Rw26:FnRow:=⟨77,9,[(.tmp 2)],Mc26⟩
theorem Ro26:Rw26.Ok Tryz.prog:=rowKit Ec26
def Rw89:FnRow:=⟨78,17,[(.tmp 4)],Mc89⟩
theorem Ro89:Rw89.Ok Tryz.prog:=rowKit Ec89
def Rw64:FnRow:=⟨79,8,[(.tmp 2)],Mc64⟩
theorem Ro64:Rw64.Ok Tryz.prog:=rowKit Ec64
def Rw227:FnRow:=⟨80,31,[(.tmp 4)],Mc227⟩
def Rw117:FnRow:=⟨81,25,[],Mc117⟩
theorem Ro117:Rw117.Ok Tryz.prog:=rowKit Ec117
def Rw263:FnRow:=⟨82,75,[(.tmp 8)],Mc263⟩
def Rw197:FnRow:=⟨83,34,[(.tmp 4)],Mc197⟩
def Rw266:FnRow:=⟨84,117,[(.tmp 4)],Mc266⟩
def Rw265:FnRow:=⟨85,36,[(.tmp 4)],Mc265⟩
def Rw105:FnRow:=⟨86,8,[(.tmp 2)],Mc105⟩
theorem Ro105:Rw105.Ok Tryz.prog:=rowKit Ec105
def Rw36:FnRow:=⟨87,43,[(.tmp 6)],Mc36⟩
theorem Ro36:Rw36.Ok Tryz.prog:=rowKit Ec36
def Rw139:FnRow:=⟨88,38,[(.tmp 6)],Mc139⟩
theorem Ro139:Rw139.Ok Tryz.prog:=rowKit Ec139
def Rw140:FnRow:=⟨89,12,[(.tmp 2)],Mc140⟩
theorem Ro140:Rw140.Ok Tryz.prog:=rowKit Ec140
def Rw142:FnRow:=⟨90,17,[(.tmp 4)],Mc142⟩
theorem Ro142:Rw142.Ok Tryz.prog:=rowKit Ec142
def Rw141:FnRow:=⟨91,8,[(.tmp 2)],Mc141⟩
theorem Ro141:Rw141.Ok Tryz.prog:=rowKit Ec141
def Rw247:FnRow:=⟨92,41,[(.tmp 4),(.tmp 5)],Mc247⟩
def Rw259:FnRow:=⟨93,56,[],Mc259⟩
def Rw260:FnRow:=⟨94,26,[],Mc260⟩
def Rw257:FnRow:=⟨95,30,[(.tmp 4)],Mc257⟩
def Rw261:FnRow:=⟨96,126,[],Mc261⟩
def Rw256:FnRow:=⟨97,111,[],Mc256⟩
def Rw248:FnRow:=⟨98,52,[(.tmp 8)],Mc248⟩
def Rw234:FnRow:=⟨99,38,[(.tmp 4)],Mc234⟩
def Rw116:FnRow:=⟨100,12,[],Mc116⟩
theorem Ro116:Rw116.Ok Tryz.prog:=rowKit Ec116
def Rw21:FnRow:=⟨101,50,[(.tmp 4)],Mc21⟩
theorem Ro21:Rw21.Ok Tryz.prog:=rowKit Ec21
def Rw22:FnRow:=⟨102,35,[],Mc22⟩
theorem Ro22:Rw22.Ok Tryz.prog:=rowKit Ec22
def Rw77:FnRow:=⟨103,21,[(.tmp 4)],Mc77⟩
theorem Ro77:Rw77.Ok Tryz.prog:=rowKit Ec77
def Rw71:FnRow:=⟨104,51,[(.tmp 4),(.tmp 5)],Mc71⟩
theorem Ro71:Rw71.Ok Tryz.prog:=rowKit Ec71
def Rw20:FnRow:=⟨105,23,[(.tmp 4)],Mc20⟩
theorem Ro20:Rw20.Ok Tryz.prog:=rowKit Ec20
def Rw119:FnRow:=⟨106,11,[],Mc119⟩
theorem Ro119:Rw119.Ok Tryz.prog:=rowKit Ec119
def Rw124:FnRow:=⟨107,33,[],Mc124⟩
theorem Ro124:Rw124.Ok Tryz.prog:=rowKit Ec124
def Rw19:FnRow:=⟨108,9,[(.tmp 2)],Mc19⟩
theorem Ro19:Rw19.Ok Tryz.prog:=rowKit Ec19
def Rw16:FnRow:=⟨109,8,[(.tmp 2)],Mc16⟩
theorem Ro16:Rw16.Ok Tryz.prog:=rowKit Ec16
def Rw9:FnRow:=⟨110,9,[(.tmp 2)],Mc9⟩
theorem Ro9:Rw9.Ok Tryz.prog:=rowKit Ec9
def Rw8:FnRow:=⟨111,23,[(.tmp 4)],Mc8⟩
theorem Ro8:Rw8.Ok Tryz.prog:=rowKit Ec8
def Rw96:FnRow:=⟨112,9,[(.tmp 2)],Mc96⟩
theorem Ro96:Rw96.Ok Tryz.prog:=rowKit Ec96
def Rw12:FnRow:=⟨113,30,[(.tmp 6)],Mc12⟩
theorem Ro12:Rw12.Ok Tryz.prog:=rowKit Ec12
def Rw15:FnRow:=⟨114,7,[(.tmp 2)],Mc15⟩
theorem Ro15:Rw15.Ok Tryz.prog:=rowKit Ec15
def Rw60:FnRow:=⟨115,21,[(.cell 4 184 4)],Mc60⟩
theorem Ro60:Rw60.Ok Tryz.prog:=⟨(by kernel_rfl:callable Tryz.prog 115=true),Tryz.f115,Nat.le_of_ble_eq_true rfl,rfl,fun r hr=>(by rcases List.mem_cons.1 hr with rfl | hr; exact (by show aggT Tryz.prog 184=some 4; kernel_rfl); exact (by cases hr)),fun _ _ _ hn h=>Ec60 hn h⟩
def Rw55:FnRow:=⟨116,16,[(.tmp 2)],Mc55⟩
theorem Ro55:Rw55.Ok Tryz.prog:=rowKit Ec55
def Rw65:FnRow:=⟨117,9,[(.tmp 2)],Mc65⟩
theorem Ro65:Rw65.Ok Tryz.prog:=rowKit Ec65
def Rw175:FnRow:=⟨118,134,[],Mc175⟩
def Rw149:FnRow:=⟨119,8,[(.tmp 2)],Mc149⟩
def Rw156:FnRow:=⟨120,39,[(.tmp 2)],Mc156⟩
def Rw148:FnRow:=⟨121,19,[(.tmp 2)],Mc148⟩
def Rw6:FnRow:=⟨122,10,[(.tmp 2)],Mc6⟩
theorem Ro6:Rw6.Ok Tryz.prog:=rowKit Ec6
def Rw50:FnRow:=⟨123,7,[(.cell 2 136 1)],Mc50⟩
theorem Ro50:Rw50.Ok Tryz.prog:=⟨(by kernel_rfl:callable Tryz.prog 123=true),Tryz.f123,Nat.le_of_ble_eq_true rfl,rfl,fun r hr=>(by rcases List.mem_cons.1 hr with rfl | hr; exact (by show aggT Tryz.prog 136=some 1; kernel_rfl); exact (by cases hr)),fun _ _ _ hn h=>Ec50 hn h⟩
def Rw54:FnRow:=⟨124,9,[(.tmp 2)],Mc54⟩
theorem Ro54:Rw54.Ok Tryz.prog:=rowKit Ec54
def Rw38:FnRow:=⟨125,12,[(.tmp 4)],Mc38⟩
theorem Ro38:Rw38.Ok Tryz.prog:=rowKit Ec38
def Rw84:FnRow:=⟨126,35,[(.tmp 4),(.tmp 5)],Mc84⟩
theorem Ro84:Rw84.Ok Tryz.prog:=rowKit Ec84
def Rw125:FnRow:=⟨127,34,[],Mc125⟩
theorem Ro125:Rw125.Ok Tryz.prog:=rowKit Ec125
def Rw127:FnRow:=⟨128,25,[],Mc127⟩
theorem Ro127:Rw127.Ok Tryz.prog:=rowKit Ec127
def Rw137:FnRow:=⟨129,6,[(.tmp 2)],Mc137⟩
theorem Ro137:Rw137.Ok Tryz.prog:=rowKit Ec137
def Rw136:FnRow:=⟨130,9,[(.tmp 2)],Mc136⟩
theorem Ro136:Rw136.Ok Tryz.prog:=rowKit Ec136
def Rw249:FnRow:=⟨131,47,[(.tmp 4)],Mc249⟩
def Rw244:FnRow:=⟨132,22,[(.tmp 6),(.tmp 7)],Mc244⟩
def Rw258:FnRow:=⟨133,21,[],Mc258⟩
def Rw230:FnRow:=⟨134,43,[(.tmp 4)],Mc230⟩
def Rw262:FnRow:=⟨135,57,[(.tmp 4)],Mc262⟩
def Rw255:FnRow:=⟨136,26,[],Mc255⟩
def Rw205:FnRow:=⟨137,18,[(.tmp 2)],Mc205⟩
def Rw233:FnRow:=⟨138,70,[(.tmp 6),(.tmp 7)],Mc233⟩
def Rw235:FnRow:=⟨139,31,[(.tmp 4)],Mc235⟩
def Rw241:FnRow:=⟨140,65,[(.tmp 4)],Mc241⟩
def Rw228:FnRow:=⟨141,91,[(.tmp 4),(.tmp 5)],Mc228⟩
def Rw240:FnRow:=⟨142,29,[(.tmp 4)],Mc240⟩
def Rw246:FnRow:=⟨143,15,[(.tmp 4)],Mc246⟩
def Rw245:FnRow:=⟨144,42,[(.tmp 6)],Mc245⟩
def Rw250:FnRow:=⟨145,59,[(.tmp 6)],Mc250⟩
def Rw25:FnRow:=⟨146,18,[(.tmp 4)],Mc25⟩
theorem Ro25:Rw25.Ok Tryz.prog:=rowKit Ec25
def Rw24:FnRow:=⟨147,24,[(.cell 4 55 6),(.tmp 5)],Mc24⟩
theorem Ro24:Rw24.Ok Tryz.prog:=⟨(by kernel_rfl:callable Tryz.prog 147=true),Tryz.f147,Nat.le_of_ble_eq_true rfl,rfl,fun r hr=>(by rcases List.mem_cons.1 hr with rfl | hr; exact (by show aggT Tryz.prog 55=some 6; kernel_rfl); exact (by rcases List.mem_cons.1 hr with rfl | hr; exact trivial; exact (by cases hr))),fun _ _ _ hn h=>Ec24 hn h⟩
def Rw95:FnRow:=⟨148,9,[(.tmp 2)],Mc95⟩
theorem Ro95:Rw95.Ok Tryz.prog:=rowKit Ec95
def Rw81:FnRow:=⟨149,27,[(.cell 4 55 6),(.tmp 5)],Mc81⟩
theorem Ro81:Rw81.Ok Tryz.prog:=⟨(by kernel_rfl:callable Tryz.prog 149=true),Tryz.f149,Nat.le_of_ble_eq_true rfl,rfl,fun r hr=>(by rcases List.mem_cons.1 hr with rfl | hr; exact (by show aggT Tryz.prog 55=some 6; kernel_rfl); exact (by rcases List.mem_cons.1 hr with rfl | hr; exact trivial; exact (by cases hr))),fun _ _ _ hn h=>Ec81 hn h⟩
def Rw93:FnRow:=⟨150,43,[(.tmp 4),(.tmp 5)],Mc93⟩
theorem Ro93:Rw93.Ok Tryz.prog:=rowKit Ec93
def Rw39:FnRow:=⟨151,41,[(.tmp 4),(.tmp 5)],Mc39⟩
theorem Ro39:Rw39.Ok Tryz.prog:=rowKit Ec39
def Rw61:FnRow:=⟨152,26,[(.tmp 4)],Mc61⟩
theorem Ro61:Rw61.Ok Tryz.prog:=rowKit Ec61
def Rw85:FnRow:=⟨153,58,[(.tmp 8)],Mc85⟩
theorem Ro85:Rw85.Ok Tryz.prog:=rowKit Ec85
def Rw11:FnRow:=⟨154,13,[(.tmp 4)],Mc11⟩
theorem Ro11:Rw11.Ok Tryz.prog:=rowKit Ec11
def Rw167:FnRow:=⟨155,49,[],Mc167⟩
def Rw166:FnRow:=⟨156,56,[],Mc166⟩
def Rw164:FnRow:=⟨157,65,[],Mc164⟩
def Rw165:FnRow:=⟨158,57,[(.tmp 6),(.tmp 7)],Mc165⟩
def Rw176:FnRow:=⟨159,32,[],Mc176⟩
def Rw172:FnRow:=⟨160,133,[(.tmp 6)],Mc172⟩
def Rw146:FnRow:=⟨161,17,[(.tmp 4)],Mc146⟩
def Rw173:FnRow:=⟨162,84,[(.tmp 8)],Mc173⟩
def Rw174:FnRow:=⟨163,168,[(.tmp 8),(.tmp 9)],Mc174⟩
def Rw150:FnRow:=⟨164,19,[(.tmp 2)],Mc150⟩
def Rw151:FnRow:=⟨165,25,[(.tmp 2)],Mc151⟩
def Rw159:FnRow:=⟨166,37,[(.tmp 2)],Mc159⟩
def Rw104:FnRow:=⟨167,31,[(.tmp 4)],Mc104⟩
theorem Ro104:Rw104.Ok Tryz.prog:=rowKit Ec104
def Rw157:FnRow:=⟨168,26,[(.tmp 4)],Mc157⟩
def Rw44:FnRow:=⟨169,37,[(.tmp 4)],Mc44⟩
theorem Ro44:Rw44.Ok Tryz.prog:=rowKit Ec44
def Rw51:FnRow:=⟨170,17,[(.tmp 2)],Mc51⟩
theorem Ro51:Rw51.Ok Tryz.prog:=rowKit Ec51
def Rw86:FnRow:=⟨171,17,[(.tmp 4)],Mc86⟩
theorem Ro86:Rw86.Ok Tryz.prog:=rowKit Ec86
def Rw66:FnRow:=⟨172,43,[(.tmp 4),(.tmp 5)],Mc66⟩
theorem Ro66:Rw66.Ok Tryz.prog:=rowKit Ec66
def Rw73:FnRow:=⟨173,27,[(.tmp 4)],Mc73⟩
theorem Ro73:Rw73.Ok Tryz.prog:=rowKit Ec73
def Rw129:FnRow:=⟨174,80,[(.tmp 2)],Mc129⟩
theorem Ro129:Rw129.Ok Tryz.prog:=rowKit Ec129
def Rw126:FnRow:=⟨175,33,[],Mc126⟩
theorem Ro126:Rw126.Ok Tryz.prog:=rowKit Ec126
def Rw13:FnRow:=⟨176,18,[(.tmp 2),(.tmp 3)],Mc13⟩
theorem Ro13:Rw13.Ok Tryz.prog:=rowKit Ec13
def Rw122:FnRow:=⟨177,14,[],Mc122⟩
theorem Ro122:Rw122.Ok Tryz.prog:=rowKit Ec122
def Rw138:FnRow:=⟨178,19,[(.tmp 2)],Mc138⟩
theorem Ro138:Rw138.Ok Tryz.prog:=rowKit Ec138
def Rw229:FnRow:=⟨179,91,[(.cell 4 253 6),(.tmp 5)],Mc229⟩
def Rw238:FnRow:=⟨180,52,[(.tmp 4)],Mc238⟩
def Rw213:FnRow:=⟨181,24,[(.tmp 4)],Mc213⟩
def Rw231:FnRow:=⟨182,66,[(.tmp 4),(.tmp 5)],Mc231⟩
def Rw232:FnRow:=⟨183,50,[(.tmp 6)],Mc232⟩
def Rw236:FnRow:=⟨184,40,[(.tmp 4),(.tmp 5)],Mc236⟩
def Rw242:FnRow:=⟨185,44,[(.tmp 4)],Mc242⟩
def Rw207:FnRow:=⟨186,12,[(.tmp 2)],Mc207⟩
def Rw204:FnRow:=⟨187,49,[(.tmp 8)],Mc204⟩
def Rw203:FnRow:=⟨188,30,[(.tmp 6)],Mc203⟩
def Rw210:FnRow:=⟨189,37,[(.tmp 8)],Mc210⟩
def Rw239:FnRow:=⟨190,21,[],Mc239⟩
def Rw211:FnRow:=⟨191,24,[(.tmp 4)],Mc211⟩
def Rw201:FnRow:=⟨192,29,[(.tmp 4)],Mc201⟩
def Rw223:FnRow:=⟨193,51,[(.tmp 4),(.tmp 5)],Mc223⟩
def Rw212:FnRow:=⟨194,47,[(.tmp 4),(.tmp 5)],Mc212⟩
def Rw70:FnRow:=⟨195,10,[(.cell 2 82 3)],Mc70⟩
theorem Ro70:Rw70.Ok Tryz.prog:=⟨(by kernel_rfl:callable Tryz.prog 195=true),Tryz.f195,Nat.le_of_ble_eq_true rfl,rfl,fun r hr=>(by rcases List.mem_cons.1 hr with rfl | hr; exact (by show aggT Tryz.prog 82=some 3; kernel_rfl); exact (by cases hr)),fun _ _ _ hn h=>Ec70 hn h⟩
def Rw103:FnRow:=⟨196,21,[(.tmp 6)],Mc103⟩
theorem Ro103:Rw103.Ok Tryz.prog:=rowKit Ec103
def Rw0:FnRow:=⟨197,33,[(.tmp 8)],Mc0⟩
theorem Ro0:Rw0.Ok Tryz.prog:=rowKit Ec0
def Rw99:FnRow:=⟨198,15,[(.tmp 4)],Mc99⟩
theorem Ro99:Rw99.Ok Tryz.prog:=rowKit Ec99
def Rw10:FnRow:=⟨199,43,[(.tmp 6)],Mc10⟩
theorem Ro10:Rw10.Ok Tryz.prog:=rowKit Ec10
def Rw45:FnRow:=⟨200,11,[(.tmp 2)],Mc45⟩
theorem Ro45:Rw45.Ok Tryz.prog:=rowKit Ec45
def Rw87:FnRow:=⟨201,19,[(.tmp 4)],Mc87⟩
theorem Ro87:Rw87.Ok Tryz.prog:=rowKit Ec87
def Rw88:FnRow:=⟨202,36,[(.tmp 4)],Mc88⟩
theorem Ro88:Rw88.Ok Tryz.prog:=rowKit Ec88
def Rw177:FnRow:=⟨203,76,[],Mc177⟩
def Rw170:FnRow:=⟨204,7,[(.tmp 2)],Mc170⟩
def Rw178:FnRow:=⟨205,33,[(.tmp 2)],Mc178⟩
def Rw168:FnRow:=⟨206,15,[(.tmp 6)],Mc168⟩
def Rw169:FnRow:=⟨207,36,[(.tmp 10)],Mc169⟩
def Rw147:FnRow:=⟨208,6,[(.tmp 2)],Mc147⟩
def Rw101:FnRow:=⟨209,73,[(.tmp 4),(.tmp 5)],Mc101⟩
theorem Ro101:Rw101.Ok Tryz.prog:=rowKit Ec101
def Rw92:FnRow:=⟨210,26,[(.tmp 4)],Mc92⟩
theorem Ro92:Rw92.Ok Tryz.prog:=rowKit Ec92
def Rw100:FnRow:=⟨211,23,[(.tmp 4),(.tmp 5)],Mc100⟩
theorem Ro100:Rw100.Ok Tryz.prog:=rowKit Ec100
def Rw3:FnRow:=⟨212,22,[(.tmp 4),(.tmp 5)],Mc3⟩
theorem Ro3:Rw3.Ok Tryz.prog:=rowKit Ec3
def Rw160:FnRow:=⟨213,9,[(.tmp 4)],Mc160⟩
def Rw158:FnRow:=⟨214,5,[(.tmp 2)],Mc158⟩
def Rw42:FnRow:=⟨215,21,[(.tmp 6),(.tmp 7)],Mc42⟩
theorem Ro42:Rw42.Ok Tryz.prog:=rowKit Ec42
def Rw67:FnRow:=⟨216,34,[(.tmp 2),(.tmp 3)],Mc67⟩
theorem Ro67:Rw67.Ok Tryz.prog:=rowKit Ec67
def Rw94:FnRow:=⟨217,21,[(.tmp 4)],Mc94⟩
theorem Ro94:Rw94.Ok Tryz.prog:=rowKit Ec94
def Rw74:FnRow:=⟨218,46,[(.tmp 4),(.tmp 5)],Mc74⟩
theorem Ro74:Rw74.Ok Tryz.prog:=rowKit Ec74
def Rw118:FnRow:=⟨219,22,[],Mc118⟩
theorem Ro118:Rw118.Ok Tryz.prog:=rowKit Ec118
def Rw75:FnRow:=⟨220,40,[(.tmp 6),(.tmp 7)],Mc75⟩
theorem Ro75:Rw75.Ok Tryz.prog:=rowKit Ec75
def Rw80:FnRow:=⟨221,29,[(.tmp 4),(.tmp 5)],Mc80⟩
theorem Ro80:Rw80.Ok Tryz.prog:=rowKit Ec80
def Rw128:FnRow:=⟨222,40,[],Mc128⟩
theorem Ro128:Rw128.Ok Tryz.prog:=rowKit Ec128
def Rw123:FnRow:=⟨223,35,[(.tmp 2)],Mc123⟩
theorem Ro123:Rw123.Ok Tryz.prog:=rowKit Ec123
def Rw237:FnRow:=⟨224,42,[(.cell 6 253 6)],Mc237⟩
def Rw206:FnRow:=⟨225,18,[(.tmp 2)],Mc206⟩
def Rw218:FnRow:=⟨226,27,[(.tmp 6)],Mc218⟩
def Rw221:FnRow:=⟨227,16,[(.tmp 6)],Mc221⟩
def Rw216:FnRow:=⟨228,35,[],Mc216⟩
def Rw224:FnRow:=⟨229,136,[(.tmp 6)],Mc224⟩
def Rw214:FnRow:=⟨230,66,[(.tmp 2),(.tmp 3)],Mc214⟩
def Rw243:FnRow:=⟨231,12,[(.tmp 2)],Mc243⟩
def Rw202:FnRow:=⟨232,15,[(.tmp 6)],Mc202⟩
def Rw208:FnRow:=⟨233,18,[(.tmp 2)],Mc208⟩
def Rw222:FnRow:=⟨234,23,[(.tmp 4)],Mc222⟩
def Rw225:FnRow:=⟨235,34,[(.tmp 4)],Mc225⟩
def Rw226:FnRow:=⟨236,34,[],Mc226⟩
def Rw220:FnRow:=⟨237,36,[(.tmp 4)],Mc220⟩
def Rw219:FnRow:=⟨238,22,[],Mc219⟩
def Rw215:FnRow:=⟨239,18,[(.tmp 4)],Mc215⟩
def Rw14:FnRow:=⟨240,16,[(.tmp 2),(.tmp 3)],Mc14⟩
theorem Ro14:Rw14.Ok Tryz.prog:=rowKit Ec14
def Rw171:FnRow:=⟨241,28,[(.tmp 8),(.tmp 9)],Mc171⟩
def Rw47:FnRow:=⟨242,28,[(.tmp 6),(.tmp 7)],Mc47⟩
theorem Ro47:Rw47.Ok Tryz.prog:=rowKit Ec47
def Rw46:FnRow:=⟨243,11,[(.tmp 4)],Mc46⟩
theorem Ro46:Rw46.Ok Tryz.prog:=rowKit Ec46
def Rw5:FnRow:=⟨244,15,[(.tmp 4)],Mc5⟩
theorem Ro5:Rw5.Ok Tryz.prog:=rowKit Ec5
def Rw52:FnRow:=⟨245,23,[(.tmp 2)],Mc52⟩
theorem Ro52:Rw52.Ok Tryz.prog:=rowKit Ec52
def Rw162:FnRow:=⟨246,19,[(.tmp 4)],Mc162⟩
def Rw102:FnRow:=⟨247,28,[],Mc102⟩
theorem Ro102:Rw102.Ok Tryz.prog:=rowKit Ec102
def Rw59:FnRow:=⟨248,73,[(.tmp 8),(.tmp 9)],Mc59⟩
theorem Ro59:Rw59.Ok Tryz.prog:=rowKit Ec59
def Rw40:FnRow:=⟨249,71,[(.tmp 6)],Mc40⟩
theorem Ro40:Rw40.Ok Tryz.prog:=rowKit Ec40
def Rw23:FnRow:=⟨250,48,[(.tmp 4)],Mc23⟩
theorem Ro23:Rw23.Ok Tryz.prog:=rowKit Ec23
def Rw98:FnRow:=⟨251,80,[(.tmp 2),(.tmp 3)],Mc98⟩
theorem Ro98:Rw98.Ok Tryz.prog:=rowKit Ec98
def Rw79:FnRow:=⟨252,32,[(.tmp 4)],Mc79⟩
theorem Ro79:Rw79.Ok Tryz.prog:=rowKit Ec79
def Rw120:FnRow:=⟨253,17,[],Mc120⟩
theorem Ro120:Rw120.Ok Tryz.prog:=rowKit Ec120
def Rw76:FnRow:=⟨254,70,[(.tmp 6),(.tmp 7)],Mc76⟩
theorem Ro76:Rw76.Ok Tryz.prog:=rowKit Ec76
def Rw200:FnRow:=⟨255,25,[(.tmp 4)],Mc200⟩
def Rw209:FnRow:=⟨256,29,[(.tmp 6)],Mc209⟩
def Rw217:FnRow:=⟨257,65,[(.tmp 4)],Mc217⟩
def Rw199:FnRow:=⟨258,26,[(.tmp 2)],Mc199⟩
def Rw49:FnRow:=⟨259,11,[(.tmp 4)],Mc49⟩
theorem Ro49:Rw49.Ok Tryz.prog:=rowKit Ec49
def Rw2:FnRow:=⟨260,23,[(.tmp 6)],Mc2⟩
theorem Ro2:Rw2.Ok Tryz.prog:=rowKit Ec2
def Rw48:FnRow:=⟨261,25,[(.tmp 6)],Mc48⟩
theorem Ro48:Rw48.Ok Tryz.prog:=rowKit Ec48
def Rw62:FnRow:=⟨262,18,[(.tmp 6),(.tmp 7)],Mc62⟩
theorem Ro62:Rw62.Ok Tryz.prog:=rowKit Ec62
def Rw63:FnRow:=⟨263,36,[(.tmp 8),(.tmp 9)],Mc63⟩
theorem Ro63:Rw63.Ok Tryz.prog:=rowKit Ec63
def Rw43:FnRow:=⟨264,32,[(.tmp 6)],Mc43⟩
theorem Ro43:Rw43.Ok Tryz.prog:=rowKit Ec43
def Rw27:FnRow:=⟨265,18,[(.tmp 2)],Mc27⟩
theorem Ro27:Rw27.Ok Tryz.prog:=rowKit Ec27
def Rw90:FnRow:=⟨266,55,[(.tmp 10),(.tmp 11)],Mc90⟩
theorem Ro90:Rw90.Ok Tryz.prog:=rowKit Ec90
def Rw53:FnRow:=⟨267,30,[(.tmp 4)],Mc53⟩
theorem Ro53:Rw53.Ok Tryz.prog:=rowKit Ec53
def Rw56:FnRow:=⟨268,6,[(.tmp 2)],Mc56⟩
theorem Ro56:Rw56.Ok Tryz.prog:=rowKit Ec56
def Rw7:FnRow:=⟨269,14,[(.tmp 2)],Mc7⟩
theorem Ro7:Rw7.Ok Tryz.prog:=rowKit Ec7
def rows:List FnRow:=[Rw192,Rw189,Rw190,Rw193,Rw191,Rw194,Rw195,Rw134,Rw185,Rw131,Rw187,Rw132,Rw107,Rw115,Rw113,Rw112,Rw183,Rw154,Rw72,Rw69,Rw144,Rw114,Rw109,Rw186,Rw179,Rw106,Rw130,Rw253,Rw108,Rw182,Rw180,Rw181,Rw111,Rw133,Rw196,Rw198,Rw32,Rw264,Rw30,Rw135,Rw34,Rw37,Rw31,Rw29,Rw35,Rw28,Rw33,Rw143,Rw254,Rw188,Rw251,Rw252,Rw110,Rw121,Rw78,Rw58,Rw83,Rw18,Rw91,Rw97,Rw82,Rw1,Rw17,Rw57,Rw41,Rw4,Rw145,Rw155,Rw152,Rw163,Rw153,Rw161,Rw184,Rw68,Rw26,Rw89,Rw64,Rw227,Rw117,Rw263,Rw197,Rw266,Rw265,Rw105,Rw36,Rw139,Rw140,Rw142,Rw141,Rw247,Rw259,Rw260,Rw257,Rw261,Rw256,Rw248,Rw234,Rw116,Rw21,Rw22,Rw77,Rw71,Rw20,Rw119,Rw124,Rw19,Rw16,Rw9,Rw8,Rw96,Rw12,Rw15,Rw60,Rw55,Rw65,Rw175,Rw149,Rw156,Rw148,Rw6,Rw50,Rw54,Rw38,Rw84,Rw125,Rw127,Rw137,Rw136,Rw249,Rw244,Rw258,Rw230,Rw262,Rw255,Rw205,Rw233,Rw235,Rw241,Rw228,Rw240,Rw246,Rw245,Rw250,Rw25,Rw24,Rw95,Rw81,Rw93,Rw39,Rw61,Rw85,Rw11,Rw167,Rw166,Rw164,Rw165,Rw176,Rw172,Rw146,Rw173,Rw174,Rw150,Rw151,Rw159,Rw104,Rw157,Rw44,Rw51,Rw86,Rw66,Rw73,Rw129,Rw126,Rw13,Rw122,Rw138,Rw229,Rw238,Rw213,Rw231,Rw232,Rw236,Rw242,Rw207,Rw204,Rw203,Rw210,Rw239,Rw211,Rw201,Rw223,Rw212,Rw70,Rw103,Rw0,Rw99,Rw10,Rw45,Rw87,Rw88,Rw177,Rw170,Rw178,Rw168,Rw169,Rw147,Rw101,Rw92,Rw100,Rw3,Rw160,Rw158,Rw42,Rw67,Rw94,Rw74,Rw118,Rw75,Rw80,Rw128,Rw123,Rw237,Rw206,Rw218,Rw221,Rw216,Rw224,Rw214,Rw243,Rw202,Rw208,Rw222,Rw225,Rw226,Rw220,Rw219,Rw215,Rw14,Rw171,Rw47,Rw46,Rw5,Rw52,Rw162,Rw102,Rw59,Rw40,Rw23,Rw98,Rw79,Rw120,Rw76,Rw200,Rw209,Rw217,Rw199,Rw49,Rw2,Rw48,Rw62,Rw63,Rw43,Rw27,Rw90,Rw53,Rw56,Rw7]
end Go.Proofs.YtblibdfcnplfhaaGreat
end
section
namespace Go.Tum
open Go
def wordC (x:BitVec 64):List Value:=[.int .u64 (x.toNat:Int)]
theorem wordC_ok:RowOk wordC 1:=⟨fun _=>rfl,fun _=>rfl⟩
def byteC (x:BitVec 8):List Value:=[.int .u8 (x.toNat:Int)]
theorem byteC_ok:RowOk byteC 1:=⟨fun _=>rfl,fun _=>rfl⟩
theorem wrap_u64 (n:Int):IntKind.u64.wrap n=((BitVec.ofInt 64 n).toNat:Int):=by
 rw [BitVec.toNat_ofInt,Int.toNat_of_nonneg (Int.emod_nonneg _ (by decide))]
 rfl
theorem wrap_u8 (n:Int):IntKind.u8.wrap n=((BitVec.ofInt 8 n).toNat:Int):=by
 rw [BitVec.toNat_ofInt,Int.toNat_of_nonneg (Int.emod_nonneg _ (by decide))]
 rfl
theorem ofInt_toNat {n:Nat} (x:BitVec n):BitVec.ofInt n (x.toNat:Int)=x:=by
 rw [BitVec.ofInt_natCast,BitVec.ofNat_toNat,BitVec.setWidth_eq]
theorem wrap_u64_w (x:BitVec 64):IntKind.u64.wrap (x.toNat:Int)=(x.toNat:Int):=by rw [wrap_u64,ofInt_toNat]
section
variable {P:Program} {n0:NA} {l:Env} {L:LH} {x y:Operand}
theorem QY.xorW {a b:BitVec 64} (hx:lv l x=some (.int .u64 (a.toNat:Int))) (hy:lv l y=some (.int .u64 (b.toNat:Int))):QY P n0 L l (.bin .xor x y) (.int .u64 ((a ^^^ b).toNat:Int)) :=
 QY.arith hx hy (by simp only [ibin]; rw [show IntKind.u64.bits=64 from rfl,ofInt_toNat,ofInt_toNat,wrap_u64_w]) rfl
theorem QY.orW {a b:BitVec 64} (hx:lv l x=some (.int .u64 (a.toNat:Int))) (hy:lv l y=some (.int .u64 (b.toNat:Int))):QY P n0 L l (.bin .or x y) (.int .u64 ((a ||| b).toNat:Int)) :=
 QY.arith hx hy (by simp only [ibin]; rw [show IntKind.u64.bits=64 from rfl,ofInt_toNat,ofInt_toNat,wrap_u64_w]) rfl
theorem QY.andW {a b:BitVec 64} (hx:lv l x=some (.int .u64 (a.toNat:Int))) (hy:lv l y=some (.int .u64 (b.toNat:Int))):QY P n0 L l (.bin .and x y) (.int .u64 ((a &&& b).toNat:Int)) :=
 QY.arith hx hy (by simp only [ibin]; rw [show IntKind.u64.bits=64 from rfl,ofInt_toNat,ofInt_toNat,wrap_u64_w]) rfl
theorem QY.andNotW {a b:BitVec 64} (hx:lv l x=some (.int .u64 (a.toNat:Int))) (hy:lv l y=some (.int .u64 (b.toNat:Int))):QY P n0 L l (.bin .andNot x y) (.int .u64 ((a &&& ~~~ b).toNat:Int)) :=
 QY.arith hx hy (by simp only [ibin]; rw [show IntKind.u64.bits=64 from rfl,ofInt_toNat,ofInt_toNat,wrap_u64_w]) rfl
theorem QY.addW {a b:BitVec 64} (hx:lv l x=some (.int .u64 (a.toNat:Int))) (hy:lv l y=some (.int .u64 (b.toNat:Int))):QY P n0 L l (.bin .add x y) (.int .u64 ((a+b).toNat:Int)) :=
 QY.arith hx hy (by simp only [ibin]; rw [wrap_u64,BitVec.ofInt_add,ofInt_toNat,ofInt_toNat]) rfl
theorem QY.mulW {a b:BitVec 64} (hx:lv l x=some (.int .u64 (a.toNat:Int))) (hy:lv l y=some (.int .u64 (b.toNat:Int))):QY P n0 L l (.bin .mul x y) (.int .u64 ((a*b).toNat:Int)) :=
 QY.arith hx hy (by simp only [ibin]; rw [wrap_u64,BitVec.ofInt_mul,ofInt_toNat,ofInt_toNat]) rfl
theorem ishift_shr (a:BitVec 64) (n:Nat):ishift false .u64 (a.toNat:Int) (n:Int)=((a >>> n).toNat:Int):=by
 simp only [ishift]
 rw [BitVec.toNat_ushiftRight,Nat.shiftRight_eq_div_pow,Int.toNat_natCast]
 have h64:IntKind.u64.bits=64:=rfl
 rw [h64,Int.fdiv_eq_ediv_of_nonneg _ (Int.pow_nonneg (by decide))]
 have e:((2:Int) ^ min n 64)=((2 ^ min n 64:Nat):Int):=by norm_cast
 rw [e,← Int.natCast_ediv]
 rcases Nat.le_total n 64 with h | h
 ·rw [Nat.min_eq_left h]
 ·rw [Nat.min_eq_right h,Nat.div_eq_of_lt a.isLt,Nat.div_eq_of_lt (Nat.lt_of_lt_of_le a.isLt (Nat.pow_le_pow_right (by decide) h))]
theorem ishift_shl (a:BitVec 64) (n:Nat):ishift true .u64 (a.toNat:Int) (n:Int)=((a <<< n).toNat:Int):=by
 simp only [ishift]
 rw [wrap_u64,Int.toNat_natCast,show IntKind.u64.bits=64 from rfl]
 congr 2
 have e:((a.toNat:Int)*2 ^ min n 64)=((a.toNat*2 ^ min n 64:Nat):Int):=by norm_cast
 rw [e,BitVec.ofInt_natCast]
 apply BitVec.eq_of_toNat_eq
 rw [BitVec.toNat_ofNat,BitVec.toNat_shiftLeft,Nat.shiftLeft_eq]
 rcases Nat.le_total n 64 with h | h
 ·rw [Nat.min_eq_left h]
 ·rw [Nat.min_eq_right h]
  have h1:2 ^ n=2 ^ 64*2 ^ (n-64):=by rw [← Nat.pow_add]; congr 1; omega
  rw [h1,Nat.mul_mod_left,← Nat.mul_assoc,Nat.mul_right_comm,Nat.mul_mod_left]
theorem QY.shrW {a:BitVec 64} {n:Nat} {k':IntKind} (hx:lv l x=some (.int .u64 (a.toNat:Int))) (hy:lv l y=some (.int k' (n:Int))):QY P n0 L l (.sh false x y) (.int .u64 ((a >>> n).toNat:Int)) :=
 QY.shift hx hy (by omega) (ishift_shr a n)
theorem QY.shlW {a:BitVec 64} {n:Nat} {k':IntKind} (hx:lv l x=some (.int .u64 (a.toNat:Int))) (hy:lv l y=some (.int k' (n:Int))):QY P n0 L l (.sh true x y) (.int .u64 ((a <<< n).toNat:Int)) :=
 QY.shift hx hy (by omega) (ishift_shl a n)
theorem QY.cvi {k k':IntKind} {n m:Int} (hx:lv l x=some (.int k' n)) (hm:k.wrap n=m):QY P n0 L l (.cvi k x) (.int k m):=by
 intro X w0 E0 w E l' h0 hE hR hl
 obtain ⟨_,h1,rfl⟩:=lv_ev hl hx
 exact ⟨_,⟨k',n,h1,rfl⟩,by rw [hm]; rfl⟩
theorem QY.cvWB {a:BitVec 64} (hx:lv l x=some (.int .u64 (a.toNat:Int))):QY P n0 L l (.cvi .u8 x) (.int .u8 ((a.setWidth 8).toNat:Int)) :=
 QY.cvi hx (by rw [wrap_u8,BitVec.ofInt_natCast,BitVec.ofNat_toNat])
theorem QY.cvBW {a:BitVec 8} (hx:lv l x=some (.int .u8 (a.toNat:Int))):QY P n0 L l (.cvi .u64 x) (.int .u64 ((a.setWidth 64).toNat:Int)) :=
 QY.cvi hx (by rw [wrap_u64,BitVec.ofInt_natCast,BitVec.ofNat_toNat])
theorem QY.cvIW {a:Int} (hx:lv l x=some (.int .i64 a)):QY P n0 L l (.cvi .u64 x) (.int .u64 ((BitVec.ofInt 64 a).toNat:Int)) :=
 QY.cvi hx (wrap_u64 a)
theorem QY.divN {a b c:Int} (hx:lv l x=some (.int .i64 a)) (hy:lv l y=some (.int .i64 b)) (hc:a / b=c) (ha:0≤a∧a≤9223372036854775807) (hb:0<b):QY P n0 L l (.bin .quo x y) (.int .i64 c):=by
 have h1:a / b≤a:=Int.ediv_le_self _ ha.1
 have h2:0≤a / b:=Int.ediv_nonneg ha.1 (by omega)
 exact QY.quo hx hy (by omega) (by rw [← hc,Int.tdiv_eq_ediv_of_nonneg ha.1]) (by omega) (by omega)
theorem QY.remN {a b c:Int} (hx:lv l x=some (.int .i64 a)) (hy:lv l y=some (.int .i64 b)) (hc:a % b=c) (ha:0≤a) (hb:0<b):QY P n0 L l (.bin .rem x y) (.int .i64 c) :=
 QY.rem hx hy (by omega) (by rw [← hc,Int.tmod_eq_emod_of_nonneg ha])
theorem QY.ldW {b k:Nat} {xs:List (BitVec 64)} {a:BitVec 64} (hx:lv l x=some (.pointer (some ⟨b,k*1,none⟩))) (hb:L[b]?=some (.gro 1 (rowsC wordC xs))) (hk:xs[k]?=some a):QY P n0 L l (.ld x) (.int .u64 (a.toNat:Int)) :=
 QY.ldF (j:=0) wordC_ok hx hb hk rfl rfl
theorem QY.ldY {b k:Nat} {xs:List (BitVec 8)} {a:BitVec 8} (hx:lv l x=some (.pointer (some ⟨b,k*1,none⟩))) (hb:L[b]?=some (.gro 1 (rowsC byteC xs))) (hk:xs[k]?=some a):QY P n0 L l (.ld x) (.int .u8 (a.toNat:Int)) :=
 QY.ldF (j:=0) byteC_ok hx hb hk rfl rfl
theorem EW.stW {b k:Nat} {xs:List (BitVec 64)} {a:BitVec 64} (hx:lv l x=some (.pointer (some ⟨b,k*1,none⟩))) (hy:lv l y=some (.int .u64 (a.toNat:Int))) (hb:L[b]?=some (.gro 1 (rowsC wordC xs))) (hk:k<xs.length) :
  EW P n0 L l (.st x y) (fun w K=>w=undef∧K=L.set b (.gro 1 (rowsC wordC (xs.set k a)))) :=
 EW.stF (j:=0) (a':=a) wordC_ok hx hy hb (List.getElem?_eq_getElem hk) (by omega) rfl rfl
theorem EW.stY {b k:Nat} {xs:List (BitVec 8)} {a:BitVec 8} (hx:lv l x=some (.pointer (some ⟨b,k*1,none⟩))) (hy:lv l y=some (.int .u8 (a.toNat:Int))) (hb:L[b]?=some (.gro 1 (rowsC byteC xs))) (hk:k<xs.length) :
  EW P n0 L l (.st x y) (fun w K=>w=undef∧K=L.set b (.gro 1 (rowsC byteC (xs.set k a)))) :=
 EW.stF (j:=0) (a':=a) byteC_ok hx hy hb (List.getElem?_eq_getElem hk) (by omega) rfl rfl
end
end Go.Tum
end
section
namespace Go.Tum
open Go
section
variable {P:Program} {n0:NA} {l:Env} {L:LH}
theorem set_self {α:Type} {l:List α} {i:Nat} {a:α} (h:l[i]?=some a):l.set i a=l:=by
 obtain ⟨hi,rfl⟩:=List.getElem?_eq_some_iff.1 h
 exact List.set_getElem_self hi
theorem Rep.putg {X:Nat→Prop} {w0 w:World} {E:Emb} {b sz o:Nat} {vs us:List Value} {r:Nat × Nat × Nat} (hR:Rep X w0 E L w) (hb:L[b]?=some (.gro sz vs)) (hr:E[b]?=some r) (hu:us.all stillS=true) (ho:o+us.length≤vs.length) (hn0:0<us.length) :
  ∃ cs,Blk w r.1 cs∧o+r.2.1+us.length≤cs.length∧Rep X w0 E (L.set b (.gro sz (splice vs o us))) (putCells w ⟨r.1,o+r.2.1,none⟩ 0 us):=by
 rcases hR.blk b _ r hb hr with ⟨rfl,_⟩ | ⟨hne,hsz,cs,hB,hcs,hroom⟩
 ·simp only [List.length_nil] at ho; omega
 ·have hcl:o+r.2.1+us.length≤cs.length:=by omega
  have hls:(splice vs o us).length=vs.length:=splice_length (by omega)
  have hne2:splice vs o us≠[]:=by intro e; apply hne; have:=congrArg List.length e; rw [hls] at this; exact List.length_eq_zero_iff.1 (by simpa using this)
  have hpb:=putCells_blk (o:=o+r.2.1) us 0 w _ hB (by omega)
  refine ⟨cs,hB,hcl,hR.upd hb hr ?_ (.inr ⟨hne2,hsz,_,hpb,?_,?_⟩) ?_⟩
  ·rw [gro_foot hne]; exact putCells_fr (p:=⟨r.1,o+r.2.1,none⟩) us 0 w
  ·rw [hls,Nat.add_zero,splice_drop hcl (by omega),show o+r.2.1-r.2.1=o by omega,splice_take (by omega) (by simp; omega),hcs]
  ·rw [hls,Nat.add_zero,splice_length hcl]; exact hroom
  ·rw [gro_foot hne,gro_foot hne2]; exact fun _ h=>.inl h
variable {α:Type} {g:α→List Value} {sz:Nat}
theorem rowsC_splice (h:RowOk g sz) {xs ys:List α} {k:Nat}:splice (rowsC g xs) (k*sz) (rowsC g ys)=rowsC g (xs.take k++ys++xs.drop (k+ys.length)):=by
 rw [splice,rowsC_length h,← Nat.add_mul,rowsC_take h,rowsC_drop h,rowsC_append,rowsC_append]
theorem lcells_rows {b k m:Nat} {xs:List α} (h:RowOk g sz) (hb:L[b]?=some (.gro sz (rowsC g xs))) (hm:k+m≤xs.length) (hz:0<sz) (hm0:0<m):lcells L ⟨b,k*sz,none⟩ (m*sz)=some (rowsC g ((xs.drop k).take m)):=by
 have:=lslc_rows (L:=L) (c:=m) h hb (rfl:k*sz=k*sz) hm hz
 cases m with
 | zero=>omega
 | succ m=>simpa [lslc] using this
def cpyT (P:Program) (dT:TypeId):Option Nat :=
 match elemOf P dT with
 | some (_,i,_)=>some i.size
 | none=>none
theorem form_slice {E:Emb} {a:Option Addr} {n c:Nat} {v:Value} (hv:VR E (.slice a n c) v):∃ a' c',v=.slice a' n c':=by
 cases a with
 | none=>cases hv; exact ⟨_,_,rfl⟩
 | some a=>rcases a with ⟨b,o,_ | s⟩ <;> first | (rcases hv with hv | ⟨rfl,rfl,_,hv⟩ <;> exact ⟨_,_,hv⟩) | (obtain ⟨_,r,_,⟨a',c',rfl,_⟩ | ⟨rfl,_,_,rfl⟩⟩:=hv <;> exact ⟨_,_,rfl⟩)
theorem EW.copyg {o:Oper} {x y:Operand} {dT sT:TypeId} {b i dn dc bx j sn sc:Nat} {xs ys:List α} (h:RowOk g sz) (ho:o.op=.call ⟨.builtin .copy,⟨[x,y]⟩,⟨[dT,sT]⟩⟩) (ht:cpyT P dT=some sz)
  (hx:lv l x=some (.slice (some ⟨b,i*sz,none⟩) dn dc)) (hy:lv l y=some (.slice (some ⟨bx,j*sz,none⟩) sn sc)) (hb:L[b]?=some (.gro sz (rowsC g xs))) (hbx:L[bx]?=some (.gro sz (rowsC g ys)))
  (hd:i+dn≤xs.length) (hs:j+sn≤ys.length) (hz:0<sz) :
  EW P n0 L l (.raw o) (fun v K=>v=.int .i64 (min sn dn:Nat)∧K=L.set b (.gro sz (rowsC g (xs.take i++(ys.drop j).take (min sn dn)++xs.drop (i+min sn dn))))):=by
 intro X w0 E0 w E l' Kf h0 hE hR hl hK
 unfold cpyT at ht
 split at ht
 rotate_left
 ·cases ht
 rename_i e ie z he
 cases ht
 obtain ⟨hu,hi,_⟩:=elemOf_ok he
 obtain ⟨vd',h1,h2⟩:=lv_ev hl hx
 obtain ⟨vs',h3,h4⟩:=lv_ev hl hy
 obtain ⟨d,op,ty,pos,af,gg⟩:=o
 simp only at ho
 subst ho
 obtain ⟨base',dc',rfl⟩:=form_slice h2
 obtain ⟨sb',sc',rfl⟩:=form_slice h4
 refine copy_any (ty:=ty) hu hi h1 h3 (fun hm=>?_) (fun hp=>?_)
 ·refine hK w E _ _ _ ⟨rfl,rfl⟩ (Ext.refl E) ?_ (by rw [hm]; rfl)
  rw [hm]
  have e:xs.take i++(ys.drop j).take 0++xs.drop (i+0)=xs:=by simp
  rw [e,set_self hb]
  exact hR
 ·have hdn:dn≠0:=by omega
  have hsn:sn≠0:=by omega
  obtain ⟨_,r,hr,⟨a1,c1,e1,hcase⟩ | ⟨hz0,_⟩⟩:=h2
  rotate_left
  ·exact absurd hz0 hdn
  rcases hcase with ⟨rfl,rfl⟩ | ⟨hz0,_⟩
  rotate_left
  ·exact absurd hz0 hdn
  cases e1
  obtain ⟨hsp,q,hq,⟨a2,c2,e2,hcase⟩ | ⟨hz0,_⟩⟩:=h4
  rotate_left
  ·exact absurd hz0 hsn
  rcases hcase with ⟨rfl,rfl⟩ | ⟨hz0,_⟩
  rotate_left
  ·exact absurd hz0 hsn
  cases e2
  have hcs:=lcells_rows (L:=L) (k:=j) (m:=min sn dn) h hbx (by omega) hz hp
  obtain ⟨ss,us,hS,_,hsl,hus,hL,hul⟩:=lcells_ok hR (a:=⟨bx,j*ie.size,none⟩) (a':=⟨q.1,j*ie.size+q.2.1,none⟩) ⟨hsp,q,hq,rfl⟩ hcs
  simp only at hS hsl hus
  have hst:=rowsC_still h ((ys.drop j).take (min sn dn))
  have hue:us=rowsC g ((ys.drop j).take (min sn dn)):=L2.eq_still hst hL
  have hlen:us.length=min sn dn*ie.size:=hul
  have hle:(i+min sn dn)*ie.size≤xs.length*ie.size:=Nat.mul_le_mul_right _ (by omega)
  rw [Nat.add_mul] at hle
  have hpos:0<min sn dn*ie.size:=Nat.mul_pos hp hz
  obtain ⟨cs,hB,hcl,hR'⟩:=hR.putg (o:=i*ie.size) (us:=us) hb hr (by rw [hue]; exact hst) (by rw [hlen,rowsC_length h]; exact hle) (by omega)
  refine ⟨_,_,_,_,cs,ss,rfl,rfl,hB,hS,by rw [← hlen]; exact hcl,hsl,fun u hu=>?_,hK _ E _ _ _ ⟨rfl,rfl⟩ (Ext.refl E) ?_ rfl⟩
  ·rw [← hus] at hu
   obtain ⟨u0,_,h5⟩:=hL.mem u hu
   exact h5.one.2
  ·rw [← hus]
   have e:=rowsC_splice h (xs:=xs) (ys:=(ys.drop j).take (min sn dn)) (k:=i)
   rw [hue] at hR'
   rw [e] at hR'
   have e2:((ys.drop j).take (min sn dn)).length=min sn dn:=by simp; omega
   rw [e2] at hR'
   rw [hue]
   exact hR'
def clrT (P:Program) (dT:TypeId):Option (Nat × List Value) :=
 match elemOf P dT with
 | some (_,i,z)=>bif Nat.blt 0 z.cells.toList.length && Nat.beq z.cells.toList.length i.size && z.cells.toList.all stillS then some (i.size,z.cells.toList) else none
 | none=>none
theorem EW.clearg {o:Oper} {x:Operand} {dT:TypeId} {b i dn dc:Nat} {xs:List α} {zs:List Value} {z0:α} (h:RowOk g sz) (ho:o.op=.call ⟨.builtin .clear,⟨[x]⟩,⟨[dT]⟩⟩) (ht:clrT P dT=some (sz,zs)) (hg0:g z0=zs)
  (hx:lv l x=some (.slice (some ⟨b,i*sz,none⟩) dn dc)) (hb:L[b]?=some (.gro sz (rowsC g xs))) (hd:i+dn≤xs.length) :
  EW P n0 L l (.raw o) (fun v K=>v=.tuple #[]∧K=L.set b (.gro sz (rowsC g (xs.take i++List.replicate dn z0++xs.drop (i+dn))))):=by
 intro X w0 E0 w E l' Kf h0 hE hR hl hK
 unfold clrT at ht
 split at ht
 rotate_left
 ·cases ht
 rename_i e ie z he
 cases hc:(Nat.blt 0 z.cells.toList.length && Nat.beq z.cells.toList.length ie.size && z.cells.toList.all stillS)
 ·rw [hc] at ht; cases ht
 rw [hc] at ht; cases ht
 simp only [Bool.and_eq_true] at hc
 obtain ⟨hu,hi,hzz⟩:=elemOf_ok he
 have hzp:0<z.cells.toList.length:=Nat.le_of_ble_eq_true hc.1.1
 have hzl:=Nat.eq_of_beq_eq_true hc.1.2
 have hzsz:z.cells.size=ie.size:=by simpa using hzl
 obtain ⟨vd',h1,h2⟩:=lv_ev hl hx
 obtain ⟨d,op,ty,pos,af,gg⟩:=o
 simp only at ho
 subst ho
 obtain ⟨base',dc',rfl⟩:=form_slice h2
 have hone:∀ u∈z.cells.toList,one u=true:=fun u hu=>(SR.still (E:=E) (List.all_eq_true.1 hc.2 u hu)).one.1
 refine clear_any (ty:=ty) hu hi hzz (by simpa using hzp) hone h1 (fun hm=>?_) (fun hp=>?_)
 ·subst hm
  refine hK w E _ _ _ ⟨rfl,rfl⟩ (Ext.refl E) ?_ ⟨[],rfl,trivial⟩
  have e:xs.take i++List.replicate 0 z0++xs.drop (i+0)=xs:=by simp
  rw [e,set_self hb]
  exact hR
 ·obtain ⟨_,r,hr,⟨a1,c1,e1,hcase⟩ | ⟨hz0,_⟩⟩:=h2
  rotate_left
  ·exact absurd hz0 (by omega)
  rcases hcase with ⟨rfl,rfl⟩ | ⟨hz0,_⟩
  rotate_left
  ·exact absurd hz0 (by omega)
  cases e1
  have hrows:repC dn z.cells.toList=rowsC g (List.replicate dn z0):=by rw [← hg0]; exact repC_rows z0 dn
  have hst:=rowsC_still h (List.replicate dn z0)
  have hlen:(repC dn z.cells.toList).length=dn*ie.size:=by rw [hrows,rowsC_length h,List.length_replicate]
  have hle:(i+dn)*ie.size≤xs.length*ie.size:=Nat.mul_le_mul_right _ hd
  rw [Nat.add_mul] at hle
  have hpos:0<dn*ie.size:=Nat.mul_pos hp (by omega)
  obtain ⟨cs,hB,hcl,hR'⟩:=hR.putg (o:=i*ie.size) (us:=repC dn z.cells.toList) hb hr (by rw [hrows]; exact hst) (by rw [hlen,rowsC_length h]; exact hle) (by omega)
  refine ⟨_,_,cs,rfl,hB,by rw [hzsz,← hlen]; exact hcl,hK _ E _ _ _ ⟨rfl,rfl⟩ (Ext.refl E) ?_ ⟨[],rfl,trivial⟩⟩
  rw [hrows] at hR' ⊢
  have e:=rowsC_splice h (xs:=xs) (ys:=List.replicate dn z0) (k:=i)
  rw [e] at hR'
  rw [List.length_replicate] at hR'
  exact hR'
end
end Go.Tum
end
section
namespace Go.Tum
open Go
section
variable {P:Program} {n0:NA} {l:Env} {L:LH}
theorem QY.slc0 {x:Operand} {lo hi:Option Operand} {size b n c lo' hi':Nat} (hx:lv l x=some (.slice (some ⟨b,0,none⟩) n c)) (h1:lbound l lo 0=some lo') (h2:lbound l hi n=some hi') (h3:lo'≤hi') (h4:hi'≤c) :
  QY P n0 L l (.slc x lo hi size) (.slice (some ⟨b,lo'*size,none⟩) (hi'-lo') (c-lo')):=by
 have:=QY.slc (P:=P) (n0:=n0) (L:=L) (size:=size) hx h1 h2 h3 h4
 rwa [Nat.zero_add] at this
theorem QY.ldYo {x:Operand} {b o k:Nat} {xs:List (BitVec 8)} {a:BitVec 8} (hx:lv l x=some (.pointer (some ⟨b,o,none⟩))) (ho:o=k) (hb:L[b]?=some (.gro 1 (rowsC byteC xs))) (hk:xs[k]?=some a):QY P n0 L l (.ld x) (.int .u8 (a.toNat:Int)) :=
 QY.ldY (by rw [hx,ho,Nat.mul_one]) hb hk
theorem QY.idxO {x i:Operand} {b o n c k sz:Nat} {kd:IntKind} (hx:lv l x=some (.slice (some ⟨b,o,none⟩) n c)) (hi:lv l i=some (.int kd (k:Int))) (h1:k<n):QY P n0 L l (.idx x i sz) (.pointer (some ⟨b,o+k*sz,none⟩)):=by
 have:=QY.idx (P:=P) (n0:=n0) (L:=L) (size:=sz) hx hi (by omega) (by omega)
 simpa using this
variable {K:Env→LH→Prop} {T T1:Taken} {ss r:List Step} {l1:Env} {L1:LH} {k:Nat} {d:Option Nat} {g:Option (Nat × Bool)} {op:QOp} {rd:Bool}
end
end Go.Tum
end
section
namespace Go.Tum
open Go
section
variable {P:Program} {w:World}
theorem choose_any (n:Nat) (hn:0<n):∃ j w',(choose (.mapNext n)).run P w=.ok j w'∧j<n∧(w'=w∨w'=w.drew):=by
 by_cases h:n≤1
 ·exact ⟨0,w,by simp [choose,Sem.run,Question.forced,h],hn,.inl rfl⟩
 ·exact ⟨w.tape w.drawn (.mapNext n) % n,w.drew,by simp [choose,Sem.run,Question.forced,h,Question.cut],Nat.mod_lt _ hn,.inr rfl⟩
theorem next_runM {r q c:Nat} {seen:List Nat} {es:List MapEntry} {ty:TypeId} (hi:w.heap[r]?=some (.mapIter (some q) c seen.toArray c)) (hm:w.heap[q]?=some (.map es.toArray c)) (hlt:∀ e∈es,e.born<c) :
  ((∀ e∈es,e.born∈seen)∧(Instr.next (.pointer (some ⟨r,0,none⟩)) false ty).run P w=.ok (.tuple #[.bool false]) w) ∨
  ∃ e∈es,e.born∉seen∧∃ w',(w'=w∨w'=w.drew)∧(Instr.next (.pointer (some ⟨r,0,none⟩)) false ty).run P w=.ok (.tuple #[.bool true,e.key,e.val]) { w' with heap:=w'.heap.setIfInBounds r (.mapIter (some q) c (seen++[e.born]).toArray c) }:=by
 have hg1:=getObjI_run (P:=P) hi (fun _ _ _ h=>by cases h)
 have hg2:=getObjI_run (P:=P) hm (fun _ _ _ h=>by cases h)
 have hleft:(es.toArray.filter fun e => !seen.toArray.contains e.born)=(es.filter fun e=>decide (e.born∉seen)).toArray:=by
  rw [List.filter_toArray]
  congr 1
  apply List.filter_congr
  intro e _
  simp
 have hu':(!seen.toArray.isEmpty && !es.toArray.isEmpty && es.toArray.all (fun e=>decide (e.born≥c)))=false:=by
  cases es with
  | nil=>simp
  | cons e t =>
   have:¬ e.born≥c:=by have:=hlt e (List.mem_cons_self ..); omega
   simp [this]
 have hL:∀ e∈es.filter (fun e=>decide (e.born∉seen)),e∈es∧e.born∉seen:=fun e he=>by simpa using he
 have hold:((es.filter fun e=>decide (e.born∉seen)).toArray.filter fun e=>decide (e.born<c))=(es.filter fun e=>decide (e.born∉seen)).toArray:=by
  rw [List.filter_toArray]
  congr 1
  exact List.filter_eq_self.2 fun e he=>by simpa using hlt e (hL e he).1
 have hnew:((es.filter fun e=>decide (e.born∉seen)).toArray.filter fun e=>decide (e.born≥c)) = #[]:=by
  rw [List.filter_toArray]
  congr 1
  exact List.filter_eq_nil_iff.2 fun e he=>by have:=hlt e (hL e he).1; simp; omega
 have key:(Instr.next (.pointer (some ⟨r,0,none⟩)) false ty).run P w=(do
   let left:=(es.filter fun e=>decide (e.born∉seen)).toArray
   let candidates:=(if left.isEmpty then #[none] else #[])++left.map some
   match candidates[← choose (.mapNext candidates.size)]? with
   | some (some e) =>
    setObj r (.mapIter (some q) c (seen.toArray.push e.born) c)
    pure (.tuple #[.bool true,e.key,e.val])
   | some none=>pure (.tuple #[.bool false])
   | none=>stuck "Next: no such candidate" : Sem Value).run P w:=by
  unfold Instr.next
  simp only [Sem.run_bind,hg1,Result.andThen_ok,hg2,hu',Bool.false_eq_true,if_false,hleft,hold,hnew,Array.append_empty]
  rfl
 rw [key]
 generalize hls:(es.filter fun e=>decide (e.born∉seen))=ls at hL
 cases ls with
 | nil =>
  refine .inl ⟨fun e he=>?_,?_⟩
  ·have:=List.filter_eq_nil_iff.1 hls e he
   simpa using this
  ·simp only [show ([]:List MapEntry).toArray.isEmpty=true from rfl,if_true,List.map_toArray,List.map_nil,Array.append_empty,Sem.run_bind,List.size_toArray,List.length_cons,List.length_nil,Nat.zero_add,choose_one,Result.andThen_ok]
   simp
 | cons e0 t =>
  obtain ⟨j,w',hj,hjl,hw⟩:=choose_any (P:=P) (w:=w) (e0::t).length (by simp)
  obtain ⟨he1,he2⟩:=hL (e0::t)[j] (List.getElem_mem hjl)
  refine .inr ⟨(e0::t)[j],he1,he2,w',hw,?_⟩
  have hsz:((#[]:Array (Option MapEntry))++(e0::t).toArray.map some).size=(e0::t).length:=by simp
  simp only [show (e0::t).toArray.isEmpty=false from rfl,Bool.false_eq_true,if_false,Sem.run_bind,hsz,hj,Result.andThen_ok]
  have hget:((#[]:Array (Option MapEntry))++(e0::t).toArray.map some)[j]?=some (some (e0::t)[j]):=by
   simp only [Array.empty_append,List.map_toArray,List.getElem?_toArray,List.getElem?_map]
   rw [List.getElem?_eq_getElem hjl]; rfl
  rw [hget]
  have hi':w'.heap[r]?=some (.mapIter (some q) c seen.toArray c):=by rcases hw with rfl | rfl <;> exact hi
  simp only [Sem.run_bind,setObjI_run (P:=P) hi' (fun _ _ _ h=>by cases h),Result.andThen_ok,Sem.run_pure]
  simp
end
end Go.Tum
end
section
namespace Go.Tum
open Go
abbrev IMap:=List (Int × Int × Nat)
def gfind (G:IMap) (a:Int):Option (Int × Int × Nat):=G.find? fun x=>decide (x.1=a)
def gget (G:IMap) (a:Int):Int:=((gfind G a).map (·.2.1)).getD 0
def ghas (G:IMap) (a:Int):Bool:=(gfind G a).isSome
def gput (G:IMap) (a n:Int) (c:Nat):IMap:=G++[(a,n,c)]
def gdel (G:IMap) (a:Int):IMap:=G.filter fun x => !decide (x.1=a)
theorem mfind_mI (G:IMap) (a:Int):mfind (mI G) a=(gfind G a).map fun x=>(x.1,.int .i64 x.2.1,x.2.2):=by
 simp only [mfind,mI,gfind,List.find?_map]
 rfl
theorem mdel_mI (G:IMap) (a:Int):mdel (mI G) a=mI (gdel G a):=by
 simp only [mdel,mI,gdel,List.filter_map]
 rfl
theorem mset_none {G:IMap} {a n:Int} {c:Nat} (h:gfind G a=none):mset (mI G) a (.int .i64 n) c=(mI (gput G a n c),c+1):=by
 unfold mset
 rw [mfind_mI,h]
 simp [mI,gput]
theorem gfind_none {G:IMap} {a:Int} (h:gfind G a=none):∀ x∈G,x.1≠a:=by
 intro x hx
 have:=List.find?_eq_none.1 h x hx
 simpa using this
theorem gfind_some {G:IMap} {a:Int} {x:Int × Int × Nat} (h:gfind G a=some x):x∈G∧x.1=a:=⟨List.mem_of_find?_eq_some h,by simpa using List.find?_some h⟩
structure GOk (G:IMap) (c:Nat):Prop where
 keys:(G.map (·.1)).Nodup
 borns:(G.map (·.2.2)).Nodup
 lt:∀ x∈G,x.2.2<c
theorem GOk.of {G:IMap} {c:Nat} (h:Wf (mI G) c):GOk G c:=by
 obtain ⟨h1,h2,h3⟩:=h
 have e1:(mI G).map (·.1)=G.map (·.1):=by simp [mI]
 have e2:(mI G).map (·.2.2)=G.map (·.2.2):=by simp [mI]
 rw [e1] at h1
 rw [e2] at h2
 exact ⟨h1,h2,fun x hx=>h3 (x.1,.int .i64 x.2.1,x.2.2) (List.mem_map.2 ⟨x,hx,rfl⟩)⟩
theorem GOk.put {G:IMap} {c:Nat} (h:GOk G c) {a n:Int} (hn:gfind G a=none):GOk (gput G a n c) (c+1):=by
 refine ⟨?_,?_,fun x hx=>?_⟩
 ·rw [gput,List.map_append,List.nodup_append]
  refine ⟨h.keys,by simp,fun b hb d hd e=>?_⟩
  obtain ⟨x,hx,rfl⟩:=List.mem_map.1 hb
  simp at hd
  exact gfind_none hn x hx (e.trans hd)
 ·rw [gput,List.map_append,List.nodup_append]
  refine ⟨h.borns,by simp,fun b hb d hd e=>?_⟩
  obtain ⟨x,hx,rfl⟩:=List.mem_map.1 hb
  have:=h.lt x hx
  simp at hd; omega
 ·rcases List.mem_append.1 hx with hx | hx
  ·have:=h.lt x hx; omega
  ·rw [List.mem_singleton] at hx; subst hx; simp
theorem GOk.del {G:IMap} {c:Nat} (h:GOk G c) (a:Int):GOk (gdel G a) c :=
 ⟨h.keys.sublist (List.Sublist.map _ List.filter_sublist),h.borns.sublist (List.Sublist.map _ List.filter_sublist),fun x hx=>h.lt x (List.mem_filter.1 hx).1⟩
theorem GOk.find {G:IMap} {c:Nat} (h:GOk G c) {x:Int × Int × Nat} (hx:x∈G):gfind G x.1=some x:=by
 have hk:=h.keys
 clear h
 induction G with
 | nil=>cases hx
 | cons a r ih =>
  simp only [List.map_cons,List.nodup_cons] at hk
  simp only [gfind,List.find?_cons]
  rcases List.mem_cons.1 hx with rfl | hx
  ·simp
  ·have:a.1≠x.1:=fun e=>hk.1 (e ▸ List.mem_map_of_mem hx)
   simp only [this,decide_false]
   exact ih hx hk.2
theorem GOk.born {G:IMap} {c:Nat} (h:GOk G c) {x y:Int × Int × Nat} (hx:x∈G) (hy:y∈G) (e:x.2.2=y.2.2):x=y:=by
 have hb:=h.borns
 clear h
 induction G with
 | nil=>cases hx
 | cons a r ih =>
  simp only [List.map_cons,List.nodup_cons] at hb
  rcases List.mem_cons.1 hx with hx1 | hx1
  ·rcases List.mem_cons.1 hy with hy1 | hy1
   ·rw [hx1,hy1]
   ·refine absurd ?_ hb.1
    rw [← hx1,e]; exact List.mem_map_of_mem hy1
  ·rcases List.mem_cons.1 hy with hy1 | hy1
   ·refine absurd ?_ hb.1
    rw [← hy1,← e]; exact List.mem_map_of_mem hx1
   ·exact ih hx1 hy1 hb.2
def unseen (G:IMap) (seen:List Nat):Nat:=(G.filter fun x=>decide (x.2.2∉seen)).length
theorem unseen_lt {G:IMap} {seen:List Nat} {x:Int × Int × Nat} (hx:x∈G) (hs:x.2.2∉seen):unseen G (seen++[x.2.2])<unseen G seen:=by
 unfold unseen
 induction G with
 | nil=>cases hx
 | cons a r ih =>
  have hle:(r.filter fun y=>decide (y.2.2∉seen++[x.2.2])).length≤(r.filter fun y=>decide (y.2.2∉seen)).length:=by
   rw [← List.countP_eq_length_filter,← List.countP_eq_length_filter]
   apply List.countP_mono_left
   intro y _ hy
   simp only [decide_eq_true_eq,List.mem_append,not_or] at hy ⊢
   exact hy.1
  simp only [List.filter_cons]
  rcases List.mem_cons.1 hx with rfl | hx
  ·rw [if_neg (by simp),if_pos (by simpa using hs),List.length_cons]; omega
  ·have:=ih hx
   by_cases h1:a.2.2∈seen
   ·rw [if_neg (by simp [h1]),if_neg (by simp [h1])]; exact this
   ·by_cases h2:a.2.2=x.2.2
    ·rw [if_neg (by simp [h2]),if_pos (by simpa using h1),List.length_cons]; omega
    ·rw [if_pos (by simp [h1,h2]),if_pos (by simpa using h1),List.length_cons,List.length_cons]; omega
section
variable {P:Program} {n0:NA} {l:Env} {L:LH}
def imT (P:Program) (mT:TypeId):Bool:=match P.underlying mT with
 | some (.map kt et)=>match P.underlying kt,zeroOf P et with
  | some (.int .i64),some (.int .i64 (.ofNat 0))=>true
  | _,_=>false
 | _=>false
theorem imT_ok {mT:TypeId} (h:imT P mT=true):∃ kt et,P.underlying mT=some (.map kt et)∧P.underlying kt=some (.int .i64)∧zeroOf P et=some (.int .i64 0):=by
 unfold imT at h
 split at h
 rotate_left
 ·cases h
 rename_i kt et hu
 split at h
 ·rename_i h1 h2; exact ⟨kt,et,hu,h1,h2⟩
 ·cases h
theorem imap_at {X:Nat→Prop} {w0 w:World} {E:Emb} {l':Env} {x:Operand} {b c:Nat} {G:IMap} (hR:Rep X w0 E L w) (hl:ER E l l') (hx:lv l x=some (.map (some b))) (hb:L[b]?=some (.imap G c)) :
  ∃ r,E[b]?=some r∧ev l' x=some (.map (some r.1))∧Mp (Value.int .i64) w r.1 (mI G) c∧Wf (mI G) c:=by
 obtain ⟨_,h1,r,h2,rfl⟩:=lv_ev hl hx
 obtain ⟨h3,h4⟩:=hR.blk b _ r hb h2
 exact ⟨r,h2,h1,h3,h4⟩
theorem QY.iget {o:Oper} {mT:TypeId} {x y:Operand} {b c:Nat} {G:IMap} {a n:Int} (ho:o.op=.lookup mT x y false) (ht:imT P mT=true) (hx:lv l x=some (.map (some b))) (hy:lv l y=some (.int .i64 a)) (hb:L[b]?=some (.imap G c)) (hn:gget G a=n):QY P n0 L l (.raw o) (.int .i64 n):=by
 intro X w0 E0 w E l' _ hE hR hl
 obtain ⟨kt,et,hT,hkt,hz⟩:=imT_ok ht
 obtain ⟨r,h2,h3,h4,_⟩:=imap_at hR hl hx hb
 obtain ⟨_,h6,rfl⟩:=lv_ev hl hy
 obtain ⟨d,op,ty,pos,af,g⟩:=o
 simp only at ho
 subst ho
 refine ⟨_,lookup_Y (ty:=ty) hT (keyLaw_int hkt) (zeroOf_ok hz) h3 h6 h4 rfl,?_⟩
 rw [mfind_mI]
 show _=_
 subst hn
 unfold gget
 cases gfind G a <;> rfl
theorem QY.igetok {o:Oper} {mT:TypeId} {x y:Operand} {b c:Nat} {G:IMap} {a n:Int} {t:Bool} (ho:o.op=.lookup mT x y true) (ht:imT P mT=true) (hx:lv l x=some (.map (some b))) (hy:lv l y=some (.int .i64 a)) (hb:L[b]?=some (.imap G c)) (hn:gget G a=n) (hh:ghas G a=t):QY P n0 L l (.raw o) (.tuple ⟨[.int .i64 n,.bool t]⟩):=by
 intro X w0 E0 w E l' _ hE hR hl
 obtain ⟨kt,et,hT,hkt,hz⟩:=imT_ok ht
 obtain ⟨r,h2,h3,h4,_⟩:=imap_at hR hl hx hb
 obtain ⟨_,h6,rfl⟩:=lv_ev hl hy
 obtain ⟨d,op,ty,pos,af,g⟩:=o
 simp only at ho
 subst ho
 refine ⟨_,lookupOk_Y (ty:=ty) hT (keyLaw_int hkt) (zeroOf_ok hz) h3 h6 h4 rfl,?_⟩
 rw [mfind_mI]
 subst hn; subst hh
 refine ⟨_,rfl,?_,?_,trivial⟩
 ·show _=_
  unfold gget
  cases gfind G a <;> rfl
 ·show _=_
  unfold ghas
  cases gfind G a <;> rfl
theorem EW.iputN {o:Oper} {mT:TypeId} {x y u:Operand} {b c:Nat} {G:IMap} {a n:Int} (ho:o.op=.mapUpdate mT x y u) (ht:imT P mT=true) (hx:lv l x=some (.map (some b))) (hy:lv l y=some (.int .i64 a)) (hu:lv l u=some (.int .i64 n)) (hb:L[b]?=some (.imap G c)) (hn:gfind G a=none) :
  EW P n0 L l (.raw o) (fun w K=>w=undef∧K=L.set b (.imap (gput G a n c) (c+1))):=by
 intro X w0 E0 w E l' Kf h0 hE hR hl hK
 obtain ⟨kt,et,hT,hkt,hz⟩:=imT_ok ht
 obtain ⟨r,h2,h3,h4,h5⟩:=imap_at hR hl hx hb
 obtain ⟨_,h6,rfl⟩:=lv_ev hl hy
 obtain ⟨_,h7,rfl⟩:=lv_ev hl hu
 obtain ⟨d,op,ty,pos,af,g⟩:=o
 simp only at ho
 subst ho
 have hs:=mset_none (n:=n) (c:=c) hn
 have hw:=h5.mset (k:=a) (.int .i64 n)
 rw [hs] at hw
 refine mapUpdate_W (ty:=ty) (k:=a) hT (keyLaw_int hkt) h3 h6 h7 h4 h5 (fun w' hM hf hsz=>hK w' E _ _ _ ⟨rfl,rfl⟩ (Ext.refl E) (hR.upd hb h2 hf ⟨?_,hw⟩ (fun _ h=>.inl h)) VR.undef)
 rw [hs] at hM; exact hM
theorem EW.idel {o:Oper} {mT kT:TypeId} {x y:Operand} {b c:Nat} {G:IMap} {a:Int} (ho:o.op=.call ⟨.builtin .delete,⟨[x,y]⟩,⟨[mT,kT]⟩⟩) (ht:imT P mT=true) (hx:lv l x=some (.map (some b))) (hy:lv l y=some (.int .i64 a)) (hb:L[b]?=some (.imap G c)) :
  EW P n0 L l (.raw o) (fun w K=>w=.tuple #[]∧K=L.set b (.imap (gdel G a) c)):=by
 intro X w0 E0 w E l' Kf h0 hE hR hl hK
 obtain ⟨kt,et,hT,hkt,hz⟩:=imT_ok ht
 obtain ⟨r,h2,h3,h4,h5⟩:=imap_at hR hl hx hb
 obtain ⟨_,h6,rfl⟩:=lv_ev hl hy
 obtain ⟨d,op,ty,pos,af,g⟩:=o
 simp only at ho
 subst ho
 have hw:=Wf.del (k:=a) h5
 rw [mdel_mI] at hw
 refine delete_W (ty:=ty) (k:=a) hT (keyLaw_int hkt) h3 h6 h4 h5 (fun w' hM hf hsz=>hK w' E _ _ _ ⟨rfl,rfl⟩ (Ext.refl E) (hR.upd hb h2 hf ⟨?_,hw⟩ (fun _ h=>.inl h)) ⟨[],rfl,trivial⟩)
 rw [mdel_mI] at hM; exact hM
theorem EW.imake {o:Oper} {mT:TypeId} (ho:o.op=.makeMap mT none):EW P n0 L l (.raw o) (fun w K=>w=.map (some L.length)∧K=L++[.imap [] 0]):=by
 intro X w0 E0 w E l' Kf h0 hE hR hl hK
 obtain ⟨d,op,ty,pos,af,g⟩:=o
 simp only at ho
 subst ho
 exact makeMap_W (ty:=ty) (mT:=mT) (Value.int .i64) (fun w' hM hf hsz=>hK w' (E++[(w.heap.size,0,0)]) _ _ _ ⟨rfl,rfl⟩ (Ext.push E _) (hR.push1 hf rfl hsz (fun _ h=>h) ⟨hM,by simp [mI],by simp [mI],by simp [mI]⟩) ⟨_,hR.last _,rfl⟩)
theorem EW.irange {o:Oper} {mT:TypeId} {x:Operand} {b c:Nat} {G:IMap} (ho:o.op=.range mT x) (ht:imT P mT=true) (hx:lv l x=some (.map (some b))) (hb:L[b]?=some (.imap G c)) :
  EW P n0 L l (.raw o) (fun v K=>v=.pointer (some ⟨L.length,0,none⟩)∧K=L++[.iter (some b) c [] c]):=by
 intro X w0 E0 w E l' Kf h0 hE hR hl hK
 obtain ⟨kt,et,hT,hkt,hz⟩:=imT_ok ht
 obtain ⟨r,h2,h1,h3,h4⟩:=imap_at hR hl hx hb
 obtain ⟨d,op,ty,pos,af,g⟩:=o
 simp only at ho
 subst ho
 intro ρ w1 ha hs
 have h3':w1.heap[r.1]?=some (.map ((mI G).map (mkE (Value.int .i64))).toArray c):=by rw [hs.heap]; exact h3
 refine Eff.value (v:=.pointer (some ⟨w1.heap.size,0,none⟩)) (w':=w1.alloc (.mapIter (some r.1) c #[] c)) ?_ ⟨w.alloc (.mapIter (some r.1) c #[] c),hs.push _,?_⟩
 ·simp [execOp,Instr.range,ha x _ h1,run_underlying hT,getObj_run (P:=P) h3']
 ·rw [hs.heap]
  refine hK _ (E++[(w.heap.size,0,0)]) _ _ _ ⟨rfl,rfl⟩ (Ext.push E _) (hR.push1 (Fr.alloc _ w _) rfl (alloc_size _ _) (fun _ h=>h) ⟨rfl,some r.1,?_,r,Ext.push E _ b r h2,rfl⟩) ⟨_,rfl,rfl,_,hR.last _,by simp⟩
  show (w.heap.push _)[w.heap.size]?=_
  simp
theorem EW.inext {o:Oper} {it:Operand} {b q c:Nat} {seen:List Nat} {G:IMap} (ho:o.op=.next it false) (hit:lv l it=some (.pointer (some ⟨b,0,none⟩))) (hb:L[b]?=some (.iter (some q) c seen c)) (hq:L[q]?=some (.imap G c)) :
  EW P n0 L l (.raw o) (fun v K=>(∃ e∈G,e.2.2∉seen∧v=.tuple ⟨[.bool true,.int .i64 e.1,.int .i64 e.2.1]⟩∧K=L.set b (.iter (some q) c (seen++[e.2.2]) c))∨((∀ e∈G,e.2.2∈seen)∧v=.tuple ⟨[.bool false]⟩∧K=L)):=by
 intro X w0 E0 w E l' Kf h0 hE hR hl hK
 obtain ⟨_,h1,a',rfl,_,r,h3,rfl⟩:=lv_ev hl hit
 have h3:E[b]?=some r:=h3
 obtain ⟨hr0,m',h5,q',h6,rfl⟩:=hR.blk b _ r hb h3
 obtain ⟨r1,r2⟩:=r
 simp only at hr0 h5
 subst hr0
 obtain ⟨h7,h8⟩:=hR.blk q _ q' hq h6
 have hG:=GOk.of h8
 obtain ⟨d,op,ty,pos,af,g⟩:=o
 simp only at ho
 subst ho
 have hmem:∀ e∈(mI G).map (mkE (Value.int .i64)),∃ y∈G,e=⟨.int .i64 y.1,.int .i64 y.2.1,y.2.2⟩:=fun e he=>by
  obtain ⟨z,hz,rfl⟩:=List.mem_map.1 he
  obtain ⟨y,hy,rfl⟩:=List.mem_map.1 hz
  exact ⟨y,hy,rfl⟩
 have hlt:∀ e∈(mI G).map (mkE (Value.int .i64)),e.born<c:=fun e he=>by
  obtain ⟨y,hy,rfl⟩:=hmem e he
  exact hG.lt y hy
 intro ρ w1 ha hs
 have h5':=h5
 rw [← hs.heap] at h5'
 have h7':w1.heap[q'.1]?=some (.map ((mI G).map (mkE (Value.int .i64))).toArray c):=by rw [hs.heap]; exact h7
 have hlb:=(Array.getElem?_eq_some_iff.1 h5).1
 rcases next_runM (P:=P) (ty:=ty) h5' h7' hlt with ⟨h9,hrun⟩ | ⟨e,he,hns,w2,hw2,hrun⟩
 ·refine Eff.value (v:=.tuple #[.bool false]) (w':=w1) ?_ ⟨w,hs,hK w E _ _ _ (.inr ⟨fun x hx=>?_,rfl,rfl⟩) (Ext.refl E) hR ⟨[.bool false],rfl,rfl,trivial⟩⟩
  ·simp only [execOp,ha it _ h1,Sem.run_bind]
   rw [show (0+0)=0 from rfl,hrun]; rfl
  ·exact h9 ⟨.int .i64 x.1,.int .i64 x.2.1,x.2.2⟩ (List.mem_map.2 ⟨(x.1,.int .i64 x.2.1,x.2.2),List.mem_map.2 ⟨x,hx,rfl⟩,rfl⟩)
 ·obtain ⟨y,hy,rfl⟩:=hmem e he
  have hsim:Sim w2 w:=by
   rcases hw2 with rfl | rfl
   ·exact hs
   ·exact ⟨hs.heap,hs.tape,hs.os,hs.output⟩
  refine Eff.value (v:=.tuple #[.bool true,.int .i64 y.1,.int .i64 y.2.1]) ?_ ⟨_,hsim.setObj r1 (.mapIter (some q'.1) c (seen++[y.2.2]).toArray c),?_⟩
  ·simp only [execOp,ha it _ h1,Sem.run_bind]
   rw [show (0+0)=0 from rfl,hrun]; rfl
  ·refine hK _ E _ _ _ (.inl ⟨y,hy,hns,rfl,rfl⟩) (Ext.refl E) (hR.upd hb h3 (Fr.setObj w r1 _) ⟨rfl,some q'.1,?_,q',h6,rfl⟩ (fun _ h=>.inl h)) ⟨[.bool true,.int .i64 y.1,.int .i64 y.2.1],rfl,rfl,rfl,rfl,trivial⟩
   simp [hlb]
theorem EW.ientry {o:Oper} {it:Operand} {b q c:Nat} {seen:List Nat} {G:IMap} {e:Int × Int × Nat} (ho:o.op=.entry it) (hit:lv l it=some (.pointer (some ⟨b,0,none⟩))) (hb:L[b]?=some (.iter (some q) c (seen++[e.2.2]) c)) (hq:L[q]?=some (.imap G c)) (he:e∈G) :
  EW P n0 L l (.raw o) (fun v K=>v=.tuple ⟨[.int .i64 e.1,.int .i64 e.2.1]⟩∧K=L):=by
 intro X w0 E0 w E l' Kf h0 hE hR hl hK
 obtain ⟨_,h1,a',rfl,_,r,h3,rfl⟩:=lv_ev hl hit
 have h3:E[b]?=some r:=h3
 obtain ⟨hr0,m',h5,q',h6,rfl⟩:=hR.blk b _ r hb h3
 obtain ⟨r1,r2⟩:=r
 simp only at hr0 h5
 subst hr0
 obtain ⟨h7,h8⟩:=hR.blk q _ q' hq h6
 have hG:=GOk.of h8
 obtain ⟨d,op,ty,pos,af,g⟩:=o
 simp only at ho
 subst ho
 intro ρ w1 ha hs
 have h5':=h5
 rw [← hs.heap] at h5'
 have h7':w1.heap[q'.1]?=some (.map ((mI G).map (mkE (Value.int .i64))).toArray c):=by rw [hs.heap]; exact h7
 have hg1:=getObjI_run (P:=P) h5' (fun _ _ _ h=>by cases h)
 have hg2:=getObjI_run (P:=P) h7' (fun _ _ _ h=>by cases h)
 have hbk:(seen++[e.2.2]).toArray.back?=some e.2.2:=by rw [List.back?_toArray,List.getLast?_append,List.getLast?_singleton]; rfl
 have hfd:((mI G).map (mkE (Value.int .i64))).toArray.find? (fun x=>x.born == e.2.2)=some ⟨.int .i64 e.1,.int .i64 e.2.1,e.2.2⟩:=by
  rw [List.find?_toArray]
  have hbn:=hG.borns
  clear hG h7 h7' h8 hg2 hq h5 h5' hg1 hb hbk
  induction G with
  | nil=>cases he
  | cons a t ih =>
   simp only [List.map_cons,List.nodup_cons] at hbn
   simp only [mI,List.map_cons,List.find?_cons,mkE]
   rcases List.mem_cons.1 he with rfl | he
   ·simp
   ·have hne:(a.2.2 == e.2.2)=false:=by
     rw [beq_eq_false_iff_ne]
     intro q; exact hbn.1 (q ▸ List.mem_map_of_mem he)
    rw [hne]
    exact ih he hbn.2
 refine Eff.value (v:=.tuple #[.int .i64 e.1,.int .i64 e.2.1]) (w':=w1) ?_ ⟨w,hs,hK w E _ _ _ ⟨rfl,rfl⟩ (Ext.refl E) hR ⟨_,rfl,rfl,rfl,trivial⟩⟩
 simp [execOp,ha it _ h1,Instr.entry,hg1,hg2,hbk,hfd]
end
end Go.Tum
end
section
namespace Go.Tum
open Go
section
variable {P:Program} {n0:NA} {K:Env→LH→Prop} {l:Env} {L:LH} {T:Taken}
variable {k:Nat} {d:Option Nat} {g:Option (Nat × Bool)} {op:QOp} {eo:EOp} {rd:Bool} {r:PT} {pend:List Nat} {v:Value}
theorem P_alt {a b:PT} (ha:LPt P n0 a K l T L) (hb:LPt P n0 b K l T L):LPt P n0 (.alt a b) K l T L :=
 fun X w0 E0 w E l' F h0 hE hR hl hT=>⟨ha X w0 E0 w E l' F h0 hE hR hl hT,hb X w0 E0 w E l' F h0 hE hR hl hT⟩
theorem P_q (hg:gw g l=some true) (hy:QY P n0 L l op v) (h:LPt P n0 r K (dpush d v l) (bif rd then (k,op,l,v)::T else T) L):LPt P n0 (.q k d g op rd r) K l T L:=by
 intro X w0 E0 w E l' F h0 hE hR hl hT
 simp only [ptWp]
 refine gw_ok hl hg (fun _=>?_) (fun e=>by cases e)
 obtain ⟨v',h1,h2⟩:=hy X w0 E0 w E l' h0 hE hR hl
 refine ⟨v',h1,?_⟩
 cases rd
 ·exact h X w0 E0 w E _ _ h0 hE hR (hl.dpush h2 d) hT
 ·exact h X w0 E0 w E _ _ h0 hE hR (hl.dpush h2 d) ⟨rfl,⟨l',v',rfl,hl,h2⟩,hT⟩
theorem P_e {R:Value→LH→Prop} (hg:gw g l=some true) (hw:EW P n0 L l eo R) (h:∀ v L',R v L'→chkP P n0 T L' pend∧LPt P n0 r K (dpush d v l) T L'):LPt P n0 (.e d g eo pend r) K l T L:=by
 intro X w0 E0 w E l' F h0 hE hR hl hT
 simp only [ptWp]
 refine gw_ok hl hg (fun _=>?_) (fun e=>by cases e)
 refine hw X w0 E0 w E l' _ h0 hE hR hl fun w' E' v' v L' hr h1 h2 h3=>?_
 obtain ⟨hc,hn⟩:=h v L' hr
 exact ⟨chkP_ok h0 (hE.trans h1) h2 (hT.ext h1) _ hc,hn X w0 E0 w' E' _ _ h0 (hE.trans h1) h2 ((hl.ext h1).dpush h3 d) (hT.ext h1)⟩
theorem P_qno (hg:gw g l=some false) (h:LPt P n0 r K (dpush d undef l) T L):LPt P n0 (.q k d g op rd r) K l T L:=by
 intro X w0 E0 w E l' F h0 hE hR hl hT
 simp only [ptWp]
 exact gw_ok hl hg (fun e=>by cases e) (fun _=>h X w0 E0 w E _ _ h0 hE hR (hl.dpush VR.undef d) hT)
theorem P_eno (hg:gw g l=some false) (h:LPt P n0 r K (dpush d undef l) T L):LPt P n0 (.e d g eo pend r) K l T L:=by
 intro X w0 E0 w E l' F h0 hE hR hl hT
 simp only [ptWp]
 exact gw_ok hl hg (fun e=>by cases e) (fun _=>h X w0 E0 w E _ _ h0 hE hR (hl.dpush VR.undef d) hT)
def lin:PT→Option (List Step)
 | .done=>some []
 | .q k d g op rd r=>match lin r with
  | some s=>some (.q k d g op rd::s)
  | none=>none
 | .e d g op pend r=>match lin r with
  | some s=>some (.e d g op pend::s)
  | none=>none
 | .alt _ _=>none
theorem lin_wp:∀ {t:PT} {ss:List Step},lin t=some ss→∀ {K:Env→World→Prop} {l:Env} {F:Facts} {w:World},stepsWp P ss K l F w→ptWp P t K l F w
 | .done,ss,h,K,l,F,w,hs=>by cases h; exact hs
 | .q k d g op rd r,ss,h,K,l,F,w,hs=>by
  simp only [lin] at h
  split at h <;> first | (cases h; done) | skip
  rename_i s hr
  cases h
  simp only [ptWp,stepsWp] at hs ⊢
  exact gcase_mono (fun _ ⟨v,a,b⟩=>⟨v,a,lin_wp hr b⟩) (fun _ a=>lin_wp hr a) hs
 | .e d g op pend r,ss,h,K,l,F,w,hs=>by
  simp only [lin] at h
  split at h <;> first | (cases h; done) | skip
  rename_i s hr
  cases h
  simp only [ptWp,stepsWp] at hs ⊢
  exact gcase_mono (fun _ a=>EOp.W_mono (fun v w' ⟨b,c⟩=>⟨b,lin_wp hr c⟩) a) (fun _ a=>lin_wp hr a) hs
 | .alt _ _,ss,h,_,_,_,_,_=>by cases h
theorem P_lin {t:PT} {ss:List Step} (h:lin t=some ss) (hs:LSt P n0 ss K l T L):LPt P n0 t K l T L:=fun X w0 E0 w E l' F h0 hE hR hl hT=>lin_wp h (hs.go X w0 E0 w E l' F h0 hE hR hl hT)
def aprun (st:List Nat):PT→Env→Taken→LH→PT × Env × Taken × LH
 | .q k d g op rd r,l,T,L=>match gsafe st g l with
  | some true=>match qsafe st L l op with
   | some v=>match rd with
    | true=>aprun st r (dpush d v l) ((k,op,l,v)::T) L
    | false=>aprun st r (dpush d v l) T L
   | none=>(.q k d g op rd r,l,T,L)
  | some false=>aprun st r (dpush d undef l) T L
  | none=>(.q k d g op rd r,l,T,L)
 | .e d g op pend r,l,T,L=>match gsafe st g l with
  | some true=>match pend with
   | []=>match esafe L l op with
    | some (v,L')=>aprun st r (dpush d v l) T L'
    | none=>(.e d g op pend r,l,T,L)
   | _::_=>(.e d g op pend r,l,T,L)
  | some false=>aprun st r (dpush d undef l) T L
  | none=>(.e d g op pend r,l,T,L)
 | .done,l,T,L=>(.done,l,T,L)
 | .alt a b,l,T,L=>(.alt a b,l,T,L)
theorem aprun_ok (st:List Nat):∀ (t:PT) (l:Env) (T:Taken) (L:LH) {t1:PT} {l1:Env} {T1:Taken} {L1:LH},aprun st t l T L=(t1,l1,T1,L1)→LPt P n0 t1 K l1 T1 L1→LPt P n0 t K l T L
 | .done,l,T,L,_,_,_,_,h,k=>by cases h; exact k
 | .alt _ _,l,T,L,_,_,_,_,h,k=>by cases h; exact k
 | .q k d g op rd r,l,T,L,_,_,_,_,h,hk=>by
  simp only [aprun] at h
  split at h
  ·rename_i hg
   split at h
   ·rename_i v hv
    split at h
    ·exact P_q (gsafe_ok hg) (qsafe_ok hv) (aprun_ok st r _ _ L h hk)
    ·exact P_q (gsafe_ok hg) (qsafe_ok hv) (aprun_ok st r _ _ L h hk)
   ·cases h; exact hk
  ·rename_i hg; exact P_qno (gsafe_ok hg) (aprun_ok st r _ _ L h hk)
  ·cases h; exact hk
 | .e d g op pend r,l,T,L,_,_,_,_,h,hk=>by
  simp only [aprun] at h
  split at h
  ·rename_i hg
   split at h
   ·split at h
    ·rename_i v L' hv
     exact P_e (gsafe_ok hg) (esafe_ok hv) fun v L' ⟨e1,e2⟩=>by subst e1; subst e2; exact ⟨trivial,aprun_ok st r _ _ _ h hk⟩
    ·cases h; exact hk
   ·cases h; exact hk
  ·rename_i hg; exact P_eno (gsafe_ok hg) (aprun_ok st r _ _ L h hk)
  ·cases h; exact hk
variable {t:PT} {l1:Env} {T1:Taken} {L1:LH} {a b:PT}
theorem P_A (st:List Nat) (h:aprun st t l T L=(.alt a b,l1,T1,L1)) (ha:LPt P n0 a K l1 T1 L1) (hb:LPt P n0 b K l1 T1 L1):LPt P n0 t K l T L:=aprun_ok st t l T L h (P_alt ha hb)
theorem P_Q (st:List Nat) (h:aprun st t l T L=(.q k d g op rd r,l1,T1,L1)) (hg:gw g l1=some true) (hy:QY P n0 L1 l1 op v) (hn:LPt P n0 r K (dpush d v l1) (bif rd then (k,op,l1,v)::T1 else T1) L1):LPt P n0 t K l T L :=
 aprun_ok st t l T L h (P_q hg hy hn)
theorem P_E (st:List Nat) {R:Value→LH→Prop} (h:aprun st t l T L=(.e d g eo pend r,l1,T1,L1)) (hg:gw g l1=some true) (hw:EW P n0 L1 l1 eo R) (hn:∀ v L',R v L'→chkP P n0 T1 L' pend∧LPt P n0 r K (dpush d v l1) T1 L'):LPt P n0 t K l T L :=
 aprun_ok st t l T L h (P_e hg hw hn)
theorem LPt.nf (h:nE l fun l=>nL L fun L=>LPt P n0 t K l T L):LPt P n0 t K l T L:=by rw [nE_eq,nL_eq] at h; exact h
end
end Go.Tum
end
section
namespace Go.Tum
open Go
def jfind:List Nat→LH→Nat→LB→LB
 | j::φ,x::xs,k,d=>match Nat.beq j k with
  | true=>x
  | false=>jfind φ xs k d
 | _,_,_,d=>d
def jgo (φ:List Nat) (xs:LH):Nat→LH→LH
 | _,[]=>[]
 | i,y::r=>jfind φ xs i y::jgo φ xs (i+1) r
theorem jgo_get (φ:List Nat) (xs:LH):∀ (M:LH) (i k:Nat),(jgo φ xs i M)[k]?=(M[k]?).map (jfind φ xs (i+k))
 | [],i,k=>by simp [jgo]
 | y::r,i,0=>by simp [jgo]
 | y::r,i,k+1=>by
  rw [jgo,List.getElem?_cons_succ,List.getElem?_cons_succ,jgo_get φ xs r (i+1) k,show i+1+k=i+(k+1) by omega]
theorem jfind_no:∀ (φ:List Nat) (xs:LH) (k:Nat) (d:LB),k∉φ→jfind φ xs k d=d
 | [],_,_,_,_=>rfl
 | _::_,[],_,_,_=>rfl
 | j::φ,x::xs,k,d,h=>by
  simp only [List.mem_cons,not_or] at h
  have:Nat.beq j k=false:=by
   cases hb:Nat.beq j k
   ·rfl
   ·exact absurd (Nat.eq_of_beq_eq_true hb).symm h.1
  rw [jfind,this]
  exact jfind_no φ xs k d h.2
theorem jset_get:∀ (φ:List Nat) (M xs:LH) (k:Nat),φ.Nodup→(jset M φ xs)[k]?=(M[k]?).map (jfind φ xs k)
 | [],M,xs,k,_=>by simp only [jset]; cases M[k]? <;> rfl
 | j::φ,M,[],k,_=>by simp only [jset]; cases M[k]? <;> rfl
 | j::φ,M,x::xs,k,hn=>by
  have hn:=List.nodup_cons.1 hn
  rw [jset,jset_get φ (M.set j x) xs k hn.2,List.getElem?_set]
  by_cases e:j=k
  ·subst e
   rw [if_pos rfl]
   have h1:∀ d,jfind (j::φ) (x::xs) j d=x:=fun d=>by rw [jfind,Nat.beq_refl]
   by_cases hl:j<M.length
   ·rw [if_pos hl,List.getElem?_eq_getElem hl,Option.map_some,Option.map_some,h1,jfind_no φ xs j x hn.1]
   ·rw [if_neg hl,List.getElem?_eq_none (by omega)]; rfl
  ·rw [if_neg e]
   have:Nat.beq j k=false:=by
    cases hb:Nat.beq j k
    ·rfl
    ·exact absurd (Nat.eq_of_beq_eq_true hb) e
   have h1:jfind (j::φ) (x::xs) k=jfind φ xs k:=by funext d; rw [jfind,this]
   rw [h1]
def joinQ (φ:List Nat) (M L1:LH):LH :=
 jgo φ ((L1.take φ.length).map (rnB (M.length+L1.length) (phi2 φ M.length L1))) 0 M++(L1.drop φ.length).map (rnB (M.length+L1.length) (phi2 φ M.length L1))
theorem joinQ_eq {φ:List Nat} {M L1:LH} (h:φ.Nodup):joinL φ M L1=joinQ φ M L1:=by
 unfold joinL joinQ
 congr 1
 apply List.ext_getElem?
 intro k
 rw [jset_get _ _ _ _ h,jgo_get,Nat.zero_add]
section
variable {P:Program} {n0:NA} {Q:Exit→Env→LH→Prop} {K:Env→LH→Prop} {l l1:Env} {L L1 L2 K2 Lc:LH} {T T1:Taken} {k:Nat} {d:Option Nat} {g:Option (Nat × Bool)} {rd:Bool} {r ss ss1:List Step} {x y:Operand} {b:MC} {op:QOp} {eo:EOp} {pend:List Nat} {v v1 v2:Value}
theorem dN (hn:LWp P n0 b Q l1 L1) (h:arun [] ss l T L=([],l1,T1,L1):=by exact rfl) (hQ:Nx n0 (LWp P n0 b Q) l1 L1→K l1 L1:=by exact fun h=>h):LSt P n0 ss K l T L:=S_done [] h (hQ (Nx.goL hn))
theorem dR {res:List RV} {R:Value→LH→Prop} {us:List Value} (hr:R v L2) (h:arun [] ss l T L=([],l1,T1,L1):=by exact rfl) (hQ:RetQ n0 res R .normal l1 L1→K l1 L1:=by exact fun h=>h) (h1:lres l1 L1 res=some us:=by exact rfl) (h2:(n0.keep.all fun k=>Nat.blt k n0.n)=true:=by exact rfl) (h3:letGoV (seqN 0 n0.n) L1 (lret us)=some v:=by exact rfl) (h4:letGo (seqN 0 n0.n) L1=some L2:=by exact rfl):LSt P n0 ss K l T L:=S_done [] h (hQ (RetQ.keepN h1 h2 h3 h4 hr))
theorem d0 (hn:K l1 L1) (h:arun [] ss l T L=([],l1,T1,L1):=by exact rfl):LSt P n0 ss K l T L:=S_done [] h hn
theorem rT {res:List RV} {R:Value→LH→Prop} {us:List Value} (hr:R v L2) (hQ:RetQ n0 res R .ret l L→Q .ret l L:=by exact fun h=>h) (h1:lres l L res=some us:=by exact rfl) (h2:(n0.keep.all fun k=>Nat.blt k n0.n)=true:=by exact rfl) (h3:letGoV (seqN 0 n0.n) L (lret us)=some v:=by exact rfl) (h4:letGo (seqN 0 n0.n) L=some L2:=by exact rfl):LWp P n0 .ret Q l L:=L_ret (hQ (RetQ.keep h1 h2 h3 h4 hr))
theorem iF {c:Operand} {x y:MC} {t:Bool} {p:Prop} (ht:p→LWp P n0 x Q (knows c true l) L) (hf:¬ p→LWp P n0 y Q (knows c false l) L) (hc:lv l c=some (.bool t):=by exact rfl)
  (hp:t=true↔p:=by first|exact bD|exact bE|exact bN|exact bNB|exact bEB|exact bNot bD|exact bNot bE|exact bNot bN):LWp P n0 (.cond c x y) Q l L:=L_ifp hc hp ht hf
theorem sP (s:Nat) {t:Bool} {p:Prop} (ht:p→LSt P n0 ss1 K ((s,.bool true)::l1) T1 L1) (hf:¬ p→LSt P n0 ss1 K ((s,.bool false)::l1) T1 L1) (h0:arun [s] ss l T L=(ss1,l1,T1,L1):=by exact rfl) (hh:headGuard ss1=some s:=by exact rfl) (hb:eget l1 s=some (.bool t):=by exact rfl)
  (hp:t=true↔p:=by first|exact bD|exact bE|exact bN|exact bNB|exact bEB|exact bNot bD|exact bNot bE|exact bNot bN):LSt P n0 ss K l T L:=S_splitp s h0 hh hb hp ht hf
theorem aX {i:Operand} {b n c j sz:Nat} {kd:IntKind} (hn:LSt P n0 r K (dpush d (.pointer (some ⟨b,j*sz,none⟩)) l1) (bif rd then (k,.idx x i sz,l1,.pointer (some ⟨b,j*sz,none⟩))::T1 else T1) L1) (h:arun [] ss l T L=(.q k d g (.idx x i sz) rd::r,l1,T1,L1):=by exact rfl) (hg:gw g l1=some true:=by exact rfl)
  (hx:lv l1 x=some (.slice (some ⟨b,0,none⟩) n c):=by exact rfl) (hi:lv l1 i=some (.int kd (j:Int)):=by exact rfl) (h1:j<n:=by omega):LSt P n0 ss K l T L:=S_Q [] h hg (QY.idxN hx hi h1) hn
theorem aA {a b:Int} (hn:LSt P n0 r K (dpush d (.int .i64 (a+b)) l1) (bif rd then (k,.bin .add x y,l1,.int .i64 (a+b))::T1 else T1) L1) (h:arun [] ss l T L=(.q k d g (.bin .add x y) rd::r,l1,T1,L1):=by exact rfl) (hg:gw g l1=some true:=by exact rfl)
  (hx:lv l1 x=some (.int .i64 a):=by exact rfl) (hy:lv l1 y=some (.int .i64 b):=by exact rfl) (h0 : -9223372036854775808≤a+b:=by omega) (h1:a+b≤9223372036854775807:=by omega):LSt P n0 ss K l T L:=S_Q [] h hg (QY.add hx hy rfl h0 h1) hn
theorem aS {a b:Int} (hn:LSt P n0 r K (dpush d (.int .i64 (a-b)) l1) (bif rd then (k,.bin .sub x y,l1,.int .i64 (a-b))::T1 else T1) L1) (h:arun [] ss l T L=(.q k d g (.bin .sub x y) rd::r,l1,T1,L1):=by exact rfl) (hg:gw g l1=some true:=by exact rfl)
  (hx:lv l1 x=some (.int .i64 a):=by exact rfl) (hy:lv l1 y=some (.int .i64 b):=by exact rfl) (h0 : -9223372036854775808≤a-b:=by omega) (h1:a-b≤9223372036854775807:=by omega):LSt P n0 ss K l T L:=S_Q [] h hg (QY.sub hx hy rfl h0 h1) hn
theorem aM {a b:Int} (hn:LSt P n0 r K (dpush d (.int .i64 (a*b)) l1) (bif rd then (k,.bin .mul x y,l1,.int .i64 (a*b))::T1 else T1) L1) (h:arun [] ss l T L=(.q k d g (.bin .mul x y) rd::r,l1,T1,L1):=by exact rfl) (hg:gw g l1=some true:=by exact rfl)
  (hx:lv l1 x=some (.int .i64 a):=by exact rfl) (hy:lv l1 y=some (.int .i64 b):=by exact rfl) (h0 : -9223372036854775808≤a*b:=by omega) (h1:a*b≤9223372036854775807:=by omega):LSt P n0 ss K l T L:=S_Q [] h hg (QY.mul hx hy rfl h0 h1) hn
theorem aD {a b:Int} (hn:LSt P n0 r K (dpush d (.int .i64 (a / b)) l1) (bif rd then (k,.bin .quo x y,l1,.int .i64 (a / b))::T1 else T1) L1) (h:arun [] ss l T L=(.q k d g (.bin .quo x y) rd::r,l1,T1,L1):=by exact rfl) (hg:gw g l1=some true:=by exact rfl)
  (hx:lv l1 x=some (.int .i64 a):=by exact rfl) (hy:lv l1 y=some (.int .i64 b):=by exact rfl) (h0:0≤a∧a≤9223372036854775807:=by omega) (h1:0<b:=by omega):LSt P n0 ss K l T L:=S_Q [] h hg (QY.divN hx hy rfl h0 h1) hn
theorem aR {a b:Int} (hn:LSt P n0 r K (dpush d (.int .i64 (a % b)) l1) (bif rd then (k,.bin .rem x y,l1,.int .i64 (a % b))::T1 else T1) L1) (h:arun [] ss l T L=(.q k d g (.bin .rem x y) rd::r,l1,T1,L1):=by exact rfl) (hg:gw g l1=some true:=by exact rfl)
  (hx:lv l1 x=some (.int .i64 a):=by exact rfl) (hy:lv l1 y=some (.int .i64 b):=by exact rfl) (h0:0≤a:=by omega) (h1:0<b:=by omega):LSt P n0 ss K l T L:=S_Q [] h hg (QY.remN hx hy rfl h0 h1) hn
theorem cP {f:FuncId} {args:List Operand} {vs us:List Value} (φ:List Nat) (ht:Tr P f us Lc (fun v K=>v=v1∧K=Lc)) (hn:LSt P n0 r K (dpush d v1 l1) T1 L1) (h:arun [] ss l T L=(.e d g (.call f args) pend::r,l1,T1,L1):=by exact rfl) (hg:gw g l1=some true:=by exact rfl)
  (hv:lvs l1 args=some vs:=by exact rfl) (he:us.map (rnV L1.length φ)=vs:=by exact rfl) (h1:φ.Nodup:=by decide) (h2:partL L1 φ φ Lc:=by repeat' (first|exact trivial|refine ⟨rfl,?_⟩ | fail)) (h3:closedL Lc=true:=by exact rfl) (h4:stillT v1=true:=by exact rfl)
  (hc:chkG P n0 φ T1 L1 L1 pend:=by repeat' (first|exact trivial|refine ⟨⟨qsafe_ok (st:=[]) rfl,Sure.of rfl⟩,?_⟩|refine ⟨.inl rfl,?_⟩|refine ⟨.inr ⟨qsafe_ok (st:=[]) rfl,Sure.of rfl⟩,?_⟩|refine ⟨⟨qsafe_ok (st:=[]) rfl,Sure.slice (by omega)⟩,?_⟩|refine ⟨.inr ⟨qsafe_ok (st:=[]) rfl,Sure.slice (by omega)⟩,?_⟩|refine ⟨.inr ⟨QY.neqB rfl (by kernel_rfl) rfl rfl,Sure.of rfl⟩,?_⟩|refine ⟨.inr ⟨QY.eqlB rfl (by kernel_rfl) rfl rfl,Sure.of rfl⟩,?_⟩ | fail)):LSt P n0 ss K l T L :=
 S_Ed [] h hg (EWd.callP φ ht hv he h1 h2 h3 h4) (disj_nil _) (nm_nilE _) (nm_nilT _) (by rintro _ _ ⟨rfl,rfl⟩; exact ⟨hc,hn⟩)
theorem cF {f:FuncId} {args:List Operand} {vs us:List Value} (φ:List Nat) (ht:Tr P f us Lc (fun v K=>v=v1∧K=L2)) (hn:nE (dpush d v2 l1) fun l=>nL K2 fun L=>LSt P n0 r K l T1 L) (h:arun [] ss l T L=(.e d g (.call f args) pend::r,l1,T1,L1):=by exact rfl) (hg:gw g l1=some true:=by exact rfl)
  (hv:lvs l1 args=some vs:=by exact rfl) (he:us.map (rnV L1.length φ)=vs:=by exact rfl) (h1:φ.Nodup:=by decide) (h2:partL L1 φ φ Lc:=by repeat' (first|exact trivial|refine ⟨rfl,?_⟩ | fail)) (h3:rnV (L1.length+L2.length) (phi2 φ L1.length L2) v1=v2:=by exact rfl) (h4:joinQ φ L1 L2=K2:=by exact rfl)
  (hc:chkP P n0 T1 K2 pend:=by repeat' (first|exact trivial|refine ⟨⟨qsafe_ok (st:=[]) rfl,Sure.of rfl⟩,?_⟩|refine ⟨⟨qsafe_ok (st:=[]) rfl,Sure.slice (by omega)⟩,?_⟩|refine ⟨⟨QY.neqB rfl (by kernel_rfl) rfl rfl,Sure.of rfl⟩,?_⟩|refine ⟨⟨QY.eqlB rfl (by kernel_rfl) rfl rfl,Sure.of rfl⟩,?_⟩ | fail)):LSt P n0 ss K l T L :=
 S_E [] h hg (EW.callF φ ht hv he h1 h2 h3 ((joinQ_eq h1).trans h4)) (by rintro _ _ ⟨rfl,rfl⟩; exact ⟨hc,LSt.nf hn⟩)
theorem cW {keep:List Nat} {f:FuncId} {args:List Operand} {vs us:List Value} (φ:List Nat) (ht:TrK P [] keep f us Lc (fun v K=>v=v1∧K=L2)) (hn:nE (dpush d v2 l1) fun l=>nL K2 fun L=>LSt P n0 r K l T1 L) (h:arun [] ss l T L=(.e d g (.call f args) pend::r,l1,T1,L1):=by exact rfl) (hg:gw g l1=some true:=by exact rfl)
  (hv:lvs l1 args=some vs:=by exact rfl) (he:us.map (rnV L1.length φ)=vs:=by exact rfl) (h1:φ.Nodup:=by decide) (h2:partL L1 φ φ Lc:=by repeat' (first|exact trivial|refine ⟨rfl,?_⟩ | fail)) (hm:nmL (dropped keep 0 φ) φ 0 L1=true:=by kernel_rfl) (h3:rnV (L1.length+L2.length) (phi2 φ L1.length L2) v1=v2:=by exact rfl) (h4:joinQ φ L1 L2=K2:=by exact rfl)
  (h5:disj (dropped keep 0 φ) n0.keep=true:=by kernel_rfl) (h6:nmE (dropped keep 0 φ) l1=true:=by kernel_rfl) (h7:nmT (dropped keep 0 φ) T1=true:=by kernel_rfl)
  (hc:chkG P n0 φ T1 L1 K2 pend:=by repeat' (first|exact trivial|refine ⟨.inl rfl,?_⟩|refine ⟨.inr ⟨qsafe_ok (st:=[]) rfl,Sure.of rfl⟩,?_⟩|refine ⟨.inr ⟨qsafe_ok (st:=[]) rfl,Sure.slice (by omega)⟩,?_⟩|refine ⟨.inr ⟨QY.neqB rfl (by kernel_rfl) rfl rfl,Sure.of rfl⟩,?_⟩|refine ⟨.inr ⟨QY.eqlB rfl (by kernel_rfl) rfl rfl,Sure.of rfl⟩,?_⟩ | fail)):LSt P n0 ss K l T L :=
 S_Ed [] h hg (EWd.callF φ ht hv he h1 h2 hm h3 ((joinQ_eq h1).trans h4)) h5 h6 h7 (by rintro _ _ ⟨rfl,rfl⟩; exact ⟨hc,LSt.nf hn⟩)
theorem eE (h:arun [] ss l T L=(.e d g eo pend::r,l1,T1,L1)) (hg:gw g l1=some true) (hw:EW P n0 L1 l1 eo (fun u K=>u=v1∧K=L2)) (hn:nE (dpush d v1 l1) fun l=>nL L2 fun L=>LSt P n0 r K l T1 L)
  (hc:chkP P n0 T1 L2 pend:=by repeat' (first|exact trivial|refine ⟨⟨qsafe_ok (st:=[]) rfl,Sure.of rfl⟩,?_⟩|refine ⟨⟨qsafe_ok (st:=[]) rfl,Sure.slice (by omega)⟩,?_⟩|refine ⟨⟨QY.neqB rfl (by kernel_rfl) rfl rfl,Sure.of rfl⟩,?_⟩|refine ⟨⟨QY.eqlB rfl (by kernel_rfl) rfl rfl,Sure.of rfl⟩,?_⟩ | fail)):LSt P n0 ss K l T L :=
 S_E [] h hg hw (by rintro _ _ ⟨rfl,rfl⟩; exact ⟨hc,LSt.nf hn⟩)
theorem qS {a b:MC} (h:LWp P n0 a (thenL (Nx n0 (LWp P n0 b Q)) Q) l L):LWp P n0 (.seq a b) Q l L:=L_seq h
theorem qR {ss:List Step} (h:LSt P n0 ss (Q .normal) l [] L):LWp P n0 (.reg ss) Q l L:=L_reg h
theorem qB {id:Nat} {b:MC} (h:LWp P n0 b (blkL id Q) l L):LWp P n0 (.block id b) Q l L:=L_block h
theorem qN {ss:List Step} {b:MC} (h:LSt P n0 ss (Nx n0 (LWp P n0 b Q)) l [] L):LWp P n0 (.seq (.reg ss) b) Q l L:=L_rs h
theorem qK (h:Q .normal l L):LWp P n0 .skip Q l L:=L_skip h
theorem qE {id:Nat} (h:Q (.exit id) l L):LWp P n0 (.exit id) Q l L:=L_exit h
theorem qL {b:MC} {Q2:Exit→Env→LH→Prop} (h:LWp P n0 b Q2 l L) (e:Nx n0 (LWp P n0 b Q2) l L→Q .normal l L:=by exact fun h=>h):LWp P n0 .skip Q l L:=L_skip (e (Nx.goL h))
theorem qF {id:Nat} {b:MC} {Q2:Exit→Env→LH→Prop} (h:LWp P n0 b Q2 l L) (e:Nx n0 (LWp P n0 b Q2) l L→Q (.exit id) l L:=by exact fun h=>h):LWp P n0 (.exit id) Q l L:=L_exit (e (Nx.goL h))
theorem qT {c:Operand} {x y:MC} (h:LWp P n0 x Q (knows c true l) L) (hc:lv l c=some (.bool true):=by exact rfl):LWp P n0 (.cond c x y) Q l L:=L_true hc h
theorem qU {c:Operand} {x y:MC} (h:LWp P n0 y Q (knows c false l) L) (hc:lv l c=some (.bool false):=by exact rfl):LWp P n0 (.cond c x y) Q l L:=L_false hc h
end
end Go.Tum
end
section
namespace Go.Tum.Base
open Go Go.Tum
theorem VT2 {k:IntKind} {a c:Int} {b d:Bool} (h1:a=c) (h2:b=d):Value.tuple ⟨[.int k a,.bool b]⟩=Value.tuple ⟨[.int k c,.bool d]⟩:=by rw [h1,h2]
def sizeC (c:Int):Int:=if c=0 then 16 else if c=1 then 32 else if c=2 then 64 else if c=3 then 128 else 0
def pagesC (n:Int):Int:=if n≤120∨n > 4096 then 0 else (n+263) / 256
def greatC (n:Int):Bool:=decide (¬ (n≤120∨n > 4096))
def mixW (x:BitVec 64):BitVec 64 :=
 let a:=(x ^^^ x >>> 30)*0xBF58476D1CE4E5B9#64
 let b:=(a ^^^ a >>> 27)*0x94D049BB133111EB#64
 b ^^^ b >>> 31
def keyW (seed:BitVec 64):BitVec 64:=mixW (seed+0x9E3779B97F4A7C15#64)
def canW (key:BitVec 64) (at_:Int):BitVec 64:=mixW (key ^^^ BitVec.ofInt 64 at_)
abbrev Bytes:=List (BitVec 8)
def byteAt (v:BitVec 64) (k:Nat):BitVec 8:=(v >>> (8*k)).setWidth 8
def putB (v:BitVec 64):Nat→Bytes
 | 0=>[]
 | k+1=>putB v k++[byteAt v k]
theorem putB_length (v:BitVec 64):∀ k,(putB v k).length=k
 | 0=>rfl
 | k+1=>by simp [putB,putB_length v k]
def getF (bs:Bytes):Nat→BitVec 64
 | 0=>0
 | k+1=>getF bs k ||| ((bs.getD k 0).setWidth 64 <<< (8*k))
def getW (bs:Bytes):BitVec 64:=getF bs (min bs.length 8)
def errIn (n:Nat) (at_ k:Int):Int:=if at_<0∨k<0∨k > n∨at_ > n-k then 3 else 0
def errW (n:Nat) (at_:Int):Int:=if at_<0∨8 > (n:Int)∨at_ > n-8 then 3 else if at_ % 8≠0 then 1 else 0
def partB (bs:Bytes) (i m:Nat):Bytes:=(bs.drop i).take m
def overB (bs:Bytes) (i:Nat) (ys:Bytes):Bytes:=bs.take i++ys++bs.drop (i+ys.length)
theorem overB_length {bs:Bytes} {i:Nat} {ys:Bytes} (h:i+ys.length≤bs.length):(overB bs i ys).length=bs.length:=by simp [overB]; omega
theorem partB_length {bs:Bytes} {i m:Nat} (h:i+m≤bs.length):(partB bs i m).length=m:=by simp [partB]; omega
theorem overB_get {bs:Bytes} {i:Nat} {ys:Bytes} (h:i+ys.length≤bs.length) (k:Nat):(overB bs i ys)[k]?=if i≤k∧k<i+ys.length then ys[k-i]? else bs[k]?:=by
 unfold overB
 by_cases h1:k<i
 ·rw [if_neg (by omega),List.append_assoc,List.getElem?_append_left (by simp; omega),List.getElem?_take,if_pos h1]
 ·by_cases h2:k<i+ys.length
  ·rw [if_pos (by omega),List.append_assoc,List.getElem?_append_right (by simp; omega),List.getElem?_append_left (by simp; omega)]
   congr 1; simp; omega
  ·rw [if_neg (by omega),List.getElem?_append_right (by simp; omega),List.getElem?_drop]
   congr 1; simp; omega
theorem overB_nil (bs:Bytes) (i:Nat):overB bs i []=bs:=by simp [overB]
theorem overB_snoc {bs:Bytes} {i:Nat} {ys:Bytes} (y:BitVec 8) (h:i+ys.length<bs.length):(overB bs i ys).set (i+ys.length) y=overB bs i (ys++[y]):=by
 apply List.ext_getElem?
 intro k
 rw [List.getElem?_set,overB_get (bs:=bs) (ys:=ys) (by omega),overB_get (bs:=bs) (ys:=ys++[y]) (by rw [List.length_append,List.length_singleton]; omega),overB_length (by omega),List.length_append,List.length_singleton]
 by_cases h1:i+ys.length=k
 ·subst h1
  rw [if_pos rfl,if_pos h,if_pos (by omega),List.getElem?_append_right (by omega)]; simp
 ·rw [if_neg h1]
  by_cases h2:i≤k∧k<i+ys.length
  ·rw [if_pos h2,if_pos (by omega),List.getElem?_append_left (by omega)]
  ·rw [if_neg h2,if_neg (by omega)]
theorem overB_copy (bs:Bytes) (i:Nat) (ys:Bytes) {sn dn:Nat} (hs:sn=ys.length) (hd:sn≤dn):bs.take i++(ys.drop 0).take (min sn dn)++bs.drop (i+min sn dn)=overB bs i ys:=by
 rw [Nat.min_eq_left hd,hs,List.drop_zero,List.take_length,overB]
theorem errIn_ok {n i m:Nat} (h:i+m≤n):errIn n i m=0:=by unfold errIn; rw [if_neg (by omega)]
theorem errW_ok {n i:Nat} (h:i+8≤n) (h8:i % 8=0):errW n i=0:=by unfold errW; rw [if_neg (by omega),if_neg (by omega)]
theorem errIn_nat {n:Nat} {a k:Int} (h:errIn n a k=0):∃ i m:Nat,a=i∧k=m∧i+m≤n:=by
 unfold errIn at h
 split at h
 ·cases h
 ·exact ⟨a.toNat,k.toNat,by omega,by omega,by omega⟩
theorem errW_in (n:Nat) (a:Int):errW n a=if errIn n a 8≠0 then 3 else if a % 8≠0 then 1 else 0:=by
 by_cases h:a<0∨8 > (n:Int)∨a > (n:Int)-8
 ·have e:errIn n a 8=3:=by unfold errIn; rw [if_pos (by omega)]
  rw [e,errW,if_pos h,if_pos (by decide)]
 ·have e:errIn n a 8=0:=by unfold errIn; rw [if_neg (by omega)]
  rw [e,errW,if_neg h]; simp
def wordB (bs:Bytes) (i:Nat):BitVec 64:=getW (partB bs i 8)
end Go.Tum.Base
end
section
namespace Go.Proofs.YtblibdfcnplfhaaGreat
open Go Go.Tum Go.Tum.Base
set_option maxRecDepth 4000
theorem may_tr (c:Int):Tr Tryz.prog 108 [.int .i64 c] [] (fun v K=>v=.bool (decide (0≤c∧c<4))∧K=[]):=by
 refine Tr.of Ro19 rfl ?_
 repeat' (first|refine qN ?_|refine dN ?_|refine dR ?_|refine d0 ?_|refine rT ?_|refine aI (hn:=?_)|refine sP 5 (fun h=>?_) (fun h=>?_)|refine qR ?_|refine qS ?_|exact ⟨rfl,rfl⟩|fail)
 all_goals (refine ⟨?_,rfl⟩; first | rfl|exact congrArg (Value.int _) (by (repeat' split) <;> omega)|exact congrArg Value.bool (by (repeat' split) <;> (rw [Bool.eq_iff_iff]; simp; try omega))|exact VT2 (by (repeat' split) <;> omega) (by (repeat' split) <;> first | rfl | omega | (rw [Bool.eq_iff_iff]; simp; try omega)))
theorem Size_tr (c:Int):Tr Tryz.prog 109 [.int .i64 c] [] (fun v K=>v=.int .i64 (sizeC c)∧K=[]):=by
 refine Tr.of Ro16 rfl ?_
 repeat' (first|refine qN ?_|refine dN ?_|refine dR ?_|refine d0 ?_|refine rT ?_|refine qT ?_|refine qU ?_|refine qL ?_|refine qK ?_|refine iF (fun h=>?_) (fun h=>?_)|refine aI (hn:=?_)|refine qR ?_|refine qS ?_|exact ⟨rfl,rfl⟩|fail)
 first|refine L_rs ?_|refine L_reg ?_ | skip
 refine cP [] (may_tr c) ?_
 repeat' (first|refine qN ?_|refine dN ?_|refine dR ?_|refine d0 ?_|refine rT ?_|refine qT ?_|refine qU ?_|refine qL ?_|refine qK ?_|refine iF (fun h=>?_) (fun h=>?_)|refine aI (hn:=?_)|refine qR ?_|refine qS ?_|exact ⟨rfl,rfl⟩|fail)
 ·refine ⟨congrArg (Value.int _) ?_,rfl⟩
  unfold sizeC; (repeat' split) <;> omega
 ·have hc:c=0∨c=1∨c=2∨c=3:=by omega
  rcases hc with rfl | rfl | rfl | rfl <;>
  ·first|refine L_rs ?_|refine L_reg ?_ | skip
   refine S_Q [] rfl rfl (QY.shift rfl rfl (by decide) rfl) ?_
   repeat' (first|refine qN ?_|refine dN ?_|refine dR ?_|refine d0 ?_|refine rT ?_|refine qT ?_|refine qU ?_|refine qL ?_|refine qK ?_|refine iF (fun h=>?_) (fun h=>?_)|refine aI (hn:=?_)|refine qR ?_|refine qS ?_|exact ⟨rfl,rfl⟩|fail)
theorem Room_tr (c:Int):Tr Tryz.prog 114 [.int .i64 c] [] (fun v K=>v=.int .i64 (max (sizeC c-8) 0)∧K=[]):=by
 have h1:sizeC c≤128∧0≤sizeC c:=by unfold sizeC; (repeat' split) <;> omega
 refine Tr.of Ro15 rfl ?_
 repeat' (first|refine qN ?_|refine dN ?_|refine dR ?_|refine d0 ?_|refine rT ?_|refine aS ?_|refine aI (hn:=?_)|refine qR ?_|refine qS ?_|exact ⟨rfl,rfl⟩|fail)
 first|refine L_rs ?_|refine L_reg ?_ | skip
 refine cP [] (Size_tr c) ?_
 repeat' (first|refine qN ?_|refine dN ?_|refine dR ?_|refine d0 ?_|refine rT ?_|refine aS ?_|refine aI (hn:=?_)|refine qR ?_|refine qS ?_|exact ⟨rfl,rfl⟩|fail)
theorem Room3_tr:Tr Tryz.prog 114 [.int .i64 3] [] (fun v K=>v=.int .i64 120∧K=[]):=Room_tr 3
theorem Pages_tr (n:Int):Tr Tryz.prog 240 [.int .i64 n] [] (fun v K=>v=.tuple ⟨[.int .i64 (pagesC n),.bool (greatC n)]⟩∧K=[]):=by
 refine Tr.of Ro14 rfl ?_
 repeat' (first|refine qN ?_|refine dN ?_|refine dR ?_|refine d0 ?_|refine rT ?_|refine qT ?_|refine qU ?_|refine qL ?_|refine qK ?_|refine iF (fun h=>?_) (fun h=>?_)|refine aA ?_|refine aS ?_|refine aI (hn:=?_)|refine aD ?_|refine sP 7 (fun h=>?_) (fun h=>?_)|refine qR ?_|refine qS ?_|exact ⟨rfl,rfl⟩|fail)
 first|refine L_rs ?_|refine L_reg ?_ | skip
 refine cP [] (Room3_tr) ?_
 repeat' (first|refine qN ?_|refine dN ?_|refine dR ?_|refine d0 ?_|refine rT ?_|refine qT ?_|refine qU ?_|refine qL ?_|refine qK ?_|refine iF (fun h=>?_) (fun h=>?_)|refine aA ?_|refine aS ?_|refine aI (hn:=?_)|refine aD ?_|refine sP 7 (fun h=>?_) (fun h=>?_)|refine qR ?_|refine qS ?_|exact ⟨rfl,rfl⟩|fail)
 all_goals refine ⟨VT2 ?_ ?_,rfl⟩
 all_goals first | (unfold pagesC; (repeat' split) <;> omega) | (unfold greatC; first | (symm; rw [decide_eq_true_eq]; omega) | (symm; rw [decide_eq_false_iff_not]; omega))
theorem mix_tr (x:BitVec 64):Tr Tryz.prog 170 [.int .u64 (x.toNat:Int)] [] (fun v K=>v=.int .u64 ((mixW x).toNat:Int)∧K=[]):=by
 refine Tr.of Ro51 rfl ?_
 repeat' (first|refine qN ?_|refine dN ?_|refine dR ?_|refine d0 ?_|refine rT ?_|refine aI (hn:=?_)|refine aM ?_|refine qR ?_|refine qS ?_|exact ⟨rfl,rfl⟩|fail)
 first|refine L_rs ?_|refine L_reg ?_ | skip
 refine S_Q [] rfl rfl (QY.shrW (n:=30) rfl rfl) ?_
 first|refine L_rs ?_|refine L_reg ?_ | skip
 refine S_Q [] rfl rfl (QY.xorW rfl rfl) ?_
 first|refine L_rs ?_|refine L_reg ?_ | skip
 refine S_Q [] rfl rfl (QY.mulW (b:=0xBF58476D1CE4E5B9#64) rfl rfl) ?_
 repeat' (first|refine qN ?_|refine dN ?_|refine dR ?_|refine d0 ?_|refine rT ?_|refine aI (hn:=?_)|refine aM ?_|refine qR ?_|refine qS ?_|exact ⟨rfl,rfl⟩|fail)
 first|refine L_rs ?_|refine L_reg ?_ | skip
 refine S_Q [] rfl rfl (QY.shrW (n:=27) rfl rfl) ?_
 first|refine L_rs ?_|refine L_reg ?_ | skip
 refine S_Q [] rfl rfl (QY.xorW rfl rfl) ?_
 first|refine L_rs ?_|refine L_reg ?_ | skip
 refine S_Q [] rfl rfl (QY.mulW (b:=0x94D049BB133111EB#64) rfl rfl) ?_
 repeat' (first|refine qN ?_|refine dN ?_|refine dR ?_|refine d0 ?_|refine rT ?_|refine aI (hn:=?_)|refine aM ?_|refine qR ?_|refine qS ?_|exact ⟨rfl,rfl⟩|fail)
 first|refine L_rs ?_|refine L_reg ?_ | skip
 refine S_Q [] rfl rfl (QY.shrW (n:=31) rfl rfl) ?_
 first|refine L_rs ?_|refine L_reg ?_ | skip
 refine S_Q [] rfl rfl (QY.xorW rfl rfl) ?_
 repeat' (first|refine qN ?_|refine dN ?_|refine dR ?_|refine d0 ?_|refine rT ?_|refine aI (hn:=?_)|refine aM ?_|refine qR ?_|refine qS ?_|exact ⟨rfl,rfl⟩|fail)
theorem linkNew_tr (x:BitVec 64):Tr Tryz.prog 123 [.int .u64 (x.toNat:Int)] [] (fun v K=>v=.agg ⟨[.int .u64 ((keyW x).toNat:Int)]⟩∧K=[]):=by
 refine Tr.of Ro50 rfl ?_
 repeat' (first|refine qN ?_|refine dN ?_|refine dR ?_|refine d0 ?_|refine rT ?_|refine aA ?_|refine aI (hn:=?_)|refine qR ?_|refine qS ?_|exact ⟨rfl,rfl⟩|fail)
 first|refine L_rs ?_|refine L_reg ?_ | skip
 refine S_Q [] rfl rfl (QY.addW (b:=0x9E3779B97F4A7C15#64) rfl rfl) ?_
 first|refine L_rs ?_|refine L_reg ?_ | skip
 refine cP [] (mix_tr (x+0x9E3779B97F4A7C15#64)) ?_
 repeat' (first|refine qN ?_|refine dN ?_|refine dR ?_|refine d0 ?_|refine rT ?_|refine aA ?_|refine aI (hn:=?_)|refine qR ?_|refine qS ?_|exact ⟨rfl,rfl⟩|fail)
theorem Canary_tr (k:BitVec 64) (a:Int):Tr Tryz.prog 243 [.agg ⟨[.int .u64 (k.toNat:Int)]⟩,.int .i64 a] [] (fun v K=>v=.int .u64 ((canW k a).toNat:Int)∧K=[]):=by
 refine Tr.of Ro46 rfl ?_
 repeat' (first|refine qN ?_|refine dN ?_|refine dR ?_|refine d0 ?_|refine rT ?_|refine aI (hn:=?_)|refine qR ?_|refine qS ?_|exact ⟨rfl,rfl⟩|fail)
 first|refine L_rs ?_|refine L_reg ?_ | skip
 refine S_Q [] rfl rfl (QY.cvIW rfl) ?_
 first|refine L_rs ?_|refine L_reg ?_ | skip
 refine S_Q [] rfl rfl (QY.xorW rfl rfl) ?_
 first|refine L_rs ?_|refine L_reg ?_ | skip
 refine cP [] (mix_tr (k ^^^ BitVec.ofInt 64 a)) ?_
 repeat' (first|refine qN ?_|refine dN ?_|refine dR ?_|refine d0 ?_|refine rT ?_|refine aI (hn:=?_)|refine qR ?_|refine qS ?_|exact ⟨rfl,rfl⟩|fail)
abbrev slB (b n:Nat):Value:=.slice (some ⟨b,0,none⟩) n n
abbrev ptr (b:Nat):Value:=.pointer (some ⟨b,0,none⟩)
def BL (bs:Bytes):LB:=.gro 1 (rowsC byteC bs)
def AL (bs:Bytes):LH:=[.cells 0 [slB 1 bs.length],BL bs]
set_option maxRecDepth 4000 in
theorem arenaNew_tr (p:Int) (n:Nat) (hn:256*min (max p 0) 256=n):Tr Tryz.prog 122 [.int .i64 p] [] (fun v K=>v=ptr 0∧K=AL (List.replicate n 0)):=by
 refine Tr.of Ro6 rfl ?_
 repeat' (first|refine qN ?_|refine dN ?_|refine dR ?_|refine d0 ?_|refine rT ?_|refine S_Q [] rfl rfl (QY.mul rfl rfl hn (by omega) (by omega)) ?_|refine aI (hn:=?_)|refine aM ?_|refine qR ?_|refine qS ?_|exact ⟨rfl,rfl⟩|fail)
 first|refine L_rs ?_|refine L_reg ?_ | skip
 refine eE rfl rfl (EW.mk (sz:=1) (bytes:=1) (k:=n) (zs:=byteC 0) rfl (by kernel_rfl) rfl rfl (by omega) (by omega)) ?_
 conv=>whnf
 repeat' (first|refine qN ?_|refine dN ?_|refine dR ?_|refine d0 ?_|refine rT ?_|refine aI (hn:=?_)|refine aM ?_|refine qR ?_|refine qS ?_|exact ⟨rfl,rfl⟩|fail)
 refine L_ret (RetQ.pick [1,0] rfl rfl rfl rfl ⟨rfl,?_⟩)
 rw [repC_rows (0:BitVec 8),AL,BL,List.length_replicate]
 rfl
theorem arenaLen_tr (bs:Bytes):Tr Tryz.prog 64 [ptr 0] (AL bs) (fun v K=>v=.int .i64 bs.length∧K=AL bs):=by
 refine Tr.of Ro1 rfl ?_
 repeat' (first|refine qN ?_|refine dN ?_|refine dR ?_|refine d0 ?_|refine rT ?_|refine qT ?_|refine qU ?_|refine qL ?_|refine qK ?_|refine iF (fun h=>?_) (fun h=>?_)|refine aI (hn:=?_)|refine qR ?_|refine qS ?_|exact ⟨rfl,rfl⟩|fail)
theorem arenaIn_tr (bs:Bytes) (hb:bs.length≤65536) (a k:Int):Tr Tryz.prog 68 [ptr 0,.int .i64 a,.int .i64 k] (AL bs) (fun v K=>v=.int .i64 (errIn bs.length a k)∧K=AL bs):=by
 refine Tr.of Ro4 rfl ?_
 repeat' (first|refine qN ?_|refine dN ?_|refine dR ?_|refine d0 ?_|refine qB ?_|refine rT ?_|refine qT ?_|refine qU ?_|refine qL ?_|refine qK ?_|refine iF (fun h=>?_) (fun h=>?_)|refine aS ?_|refine aI (hn:=?_)|refine sP 13 (fun h=>?_) (fun h=>?_)|refine sP 17 (fun h=>?_) (fun h=>?_)|refine sP 26 (fun h=>?_) (fun h=>?_)|refine qR ?_|refine qS ?_|exact ⟨rfl,rfl⟩|fail)
 all_goals (refine ⟨congrArg (Value.int _) ?_,rfl⟩; unfold errIn; (repeat' split) <;> omega)
theorem AL_over {bs:Bytes} {i:Nat} {ys:Bytes} (h:i+ys.length≤bs.length):AL (overB bs i ys)=[.cells 0 [slB 1 bs.length],BL (overB bs i ys)]:=by rw [AL,overB_length h]
theorem arenaFill_ok (bs:Bytes) (hb:bs.length≤65536) (i m:Nat) (c:BitVec 8) (h:i+m≤bs.length):Tr Tryz.prog 197 [ptr 0,.int .i64 i,.int .i64 m,.int .u8 (c.toNat:Int)] (AL bs) (fun v K=>v=.int .i64 0∧K=AL (overB bs i (List.replicate m c))):=by
 have hI:=arenaIn_tr bs hb i m
 rw [errIn_ok h] at hI
 rw [AL_over (by rw [List.length_replicate]; exact h)]
 refine Tr.of Ro0 rfl ?_
 refine L_rs (S_done [] rfl (Nx.goL (L_seq ?_)))
 first|refine L_rs ?_|refine L_reg ?_ | skip
 refine cP [0,1] (hI) ?_
 refine S_done [] rfl (Nx.goL (L_rs (S_done [] rfl (Nx.goL (L_false rfl (L_skip (Nx.goL ?_)))))))
 refine L_cut (fun l L=>l=[]∧L=[.cells 0 [slB 1 bs.length],BL (overB bs i (List.replicate m c))]) ?_ ?_
 ·refine L_rs (S_done [] rfl (Nx.pick [0,1,2,3,10] [0,1] rfl rfl rfl ?_))
  refine L_block (L_loop (fun r l L=>∃ j:Nat,r=m-j∧j≤m∧l=[(0,ptr 0),(1,.int .i64 i),(2,.int .i64 m),(3,.int .u8 (c.toNat:Int)),(10,.int .i64 ((i+j:Nat):Int))]∧L=[.cells 0 [slB 1 bs.length],BL (overB bs i (List.replicate j c))]) m ⟨0,rfl,by omega,rfl,by rw [List.replicate_zero,overB_nil]; rfl⟩ ?_)
  rintro r _ _ ⟨j,rfl,hj,rfl,rfl⟩
  refine L_seq ?_
  repeat' (first|refine qN ?_|refine dN ?_|refine dR ?_|refine d0 ?_|refine qB ?_|refine rT ?_|refine qT ?_|refine qU ?_|refine qL ?_|refine qK ?_|refine qF ?_|refine qE ?_|refine iF (fun h=>?_) (fun h=>?_)|refine aX ?_|refine aA ?_|refine aI (hn:=?_)|refine qR ?_|refine qS ?_|exact ⟨rfl,rfl⟩|fail)
  ·have hs:=overB_snoc (bs:=bs) (i:=i) (ys:=List.replicate j c) c (by rw [List.length_replicate]; omega)
   rw [List.length_replicate,← List.replicate_succ'] at hs
   first|refine L_rs ?_|refine L_reg ?_ | skip
   refine eE rfl rfl (EW.stY (k:=i+j) rfl rfl rfl (by rw [overB_length (by rw [List.length_replicate]; omega)]; omega)) ?_
   conv=>whnf
   repeat' (first|refine qN ?_|refine dN ?_|refine dR ?_|refine d0 ?_|refine qB ?_|refine rT ?_|refine qT ?_|refine qU ?_|refine qL ?_|refine qK ?_|refine qF ?_|refine qE ?_|refine iF (fun h=>?_) (fun h=>?_)|refine aX ?_|refine aA ?_|refine aI (hn:=?_)|refine qR ?_|refine qS ?_|exact ⟨rfl,rfl⟩|fail)
   exact Nx.pick [0,1,2,3,10] [0,1] rfl rfl rfl ⟨m-(j+1),by omega,j+1,rfl,by omega,rfl,by rw [← hs]; rfl⟩
  ·obtain rfl:j=m:=by omega
   exact Nx.pick [] [0,1] rfl rfl rfl ⟨rfl,rfl⟩
 rintro _ _ ⟨rfl,rfl⟩
 repeat' (first|refine qN ?_|refine dN ?_|refine dR ?_|refine d0 ?_|refine qB ?_|refine rT ?_|refine qT ?_|refine qU ?_|refine qL ?_|refine qK ?_|refine qF ?_|refine qE ?_|refine iF (fun h=>?_) (fun h=>?_)|refine aX ?_|refine aA ?_|refine aI (hn:=?_)|refine qR ?_|refine qS ?_|exact ⟨rfl,rfl⟩|fail)
theorem arenaword_tr (bs:Bytes) (hb:bs.length≤65536) (a:Int):Tr Tryz.prog 244 [ptr 0,.int .i64 a] (AL bs) (fun v K=>v=.int .i64 (errW bs.length a)∧K=AL bs):=by
 rw [errW_in]
 have hI:=arenaIn_tr bs hb a 8
 by_cases h0:errIn bs.length a 8=0
 ·obtain ⟨i,m,rfl,hm,hle⟩:=errIn_nat h0
  rw [h0] at hI ⊢
  refine Tr.of Ro5 rfl ?_
  repeat' (first|refine qN ?_|refine dN ?_|refine dR ?_|refine d0 ?_|refine rT ?_|refine qT ?_|refine qU ?_|refine qL ?_|refine qK ?_|refine iF (fun h=>?_) (fun h=>?_)|refine aI (hn:=?_)|refine aR ?_|refine qR ?_|refine qS ?_|exact ⟨rfl,rfl⟩|fail)
  first|refine L_rs ?_|refine L_reg ?_ | skip
  refine cP [0,1] (hI) ?_
  repeat' (first|refine qN ?_|refine dN ?_|refine dR ?_|refine d0 ?_|refine rT ?_|refine qT ?_|refine qU ?_|refine qL ?_|refine qK ?_|refine iF (fun h=>?_) (fun h=>?_)|refine aI (hn:=?_)|refine aR ?_|refine qR ?_|refine qS ?_|exact ⟨rfl,rfl⟩|fail)
  ·refine ⟨congrArg (Value.int _) ?_,rfl⟩
   rw [if_neg (by decide),if_pos (by omega)]
  ·refine ⟨congrArg (Value.int _) ?_,rfl⟩
   rw [if_neg (by decide),if_neg (by omega)]
 ·refine Tr.of Ro5 rfl ?_
  repeat' (first|refine qN ?_|refine dN ?_|refine dR ?_|refine d0 ?_|refine rT ?_|refine qT ?_|refine qU ?_|refine qL ?_|refine qK ?_|refine iF (fun h=>?_) (fun h=>?_)|refine aI (hn:=?_)|refine aR ?_|refine qR ?_|refine qS ?_|exact ⟨rfl,rfl⟩|fail)
  first|refine L_rs ?_|refine L_reg ?_ | skip
  refine cP [0,1] (hI) ?_
  repeat' (first|refine qN ?_|refine dN ?_|refine dR ?_|refine d0 ?_|refine rT ?_|refine qT ?_|refine qU ?_|refine qL ?_|refine qK ?_|refine iF (fun h=>?_) (fun h=>?_)|refine aI (hn:=?_)|refine aR ?_|refine qR ?_|refine qS ?_|exact ⟨rfl,rfl⟩|fail)
  ·refine ⟨congrArg (Value.int _) ?_,rfl⟩
   rw [if_pos h0,errIn] at *
   split at h0
   ·rw [if_pos ‹_›]
   ·exact absurd rfl h0
  all_goals contradiction
theorem numGet_tr (ys:Bytes) (i m c:Nat) (h:i+m≤ys.length) (hb:ys.length≤65536):Tr Tryz.prog 245 [.slice (some ⟨0,i*1,none⟩) m c] [BL ys] (fun v K=>v=.int .u64 ((getW (partB ys i m)).toNat:Int)∧K=[BL ys]):=by
 refine Tr.of Ro52 rfl ?_
 refine L_rs (S_done [] rfl (Nx.goL (L_rs (S_done [] rfl (Nx.goL ?_)))))
 have hlen:=partB_length h
 refine L_cut (fun l L=>l=[(3,.int .u64 ((getW (partB ys i m)).toNat:Int))]∧L=[BL ys]) ?_ ?_
 ·refine L_rs (S_done [] rfl (Nx.pick [0,3,7,8] [0] rfl rfl rfl ?_))
  refine L_block (L_loop (fun r l L=>∃ k:Nat,r=min m 8-k∧k≤min m 8∧l=[(0,.slice (some ⟨0,i*1,none⟩) m c),(3,.int .u64 ((getF (partB ys i m) k).toNat:Int)),(7,.int .i64 (min m 8:Nat)),(8,.int .i64 k)]∧L=[BL ys]) (min m 8) ⟨0,rfl,by omega,?_,rfl⟩ ?_)
  ·rw [show ((min m 8:Nat):Int)=imm false m 8 by show _=min (m:Int) 8; omega]; rfl
  rintro r _ _ ⟨k,rfl,hk,rfl,rfl⟩
  first|refine L_seq (L_rs (S_done [] rfl (Nx.goL (iF (fun h=>L_skip (Nx.goL ?_)) (fun h=>L_exit ?_)))))|refine L_rs (S_done [] rfl (Nx.goL (L_seq (iF (fun h=>L_skip (Nx.goL ?_)) (fun h=>L_exit ?_)))))
  ·have hk':k<m:=by omega
   obtain ⟨x,hx⟩:∃ x,ys[i+k]?=some x:=⟨_,List.getElem?_eq_getElem (by omega)⟩
   have hg:(partB ys i m).getD k 0=x:=by
    rw [List.getD_eq_getElem?_getD,partB,List.getElem?_take,if_pos hk',List.getElem?_drop,hx]; rfl
   repeat' (first|refine qN ?_|refine dN ?_|refine dR ?_|refine d0 ?_|refine qB ?_|refine rT ?_|refine qT ?_|refine qU ?_|refine qL ?_|refine qK ?_|refine qF ?_|refine qE ?_|refine iF (fun h=>?_) (fun h=>?_)|refine aX ?_|refine aA ?_|refine aI (hn:=?_)|refine aM ?_|refine qR ?_|refine qS ?_|exact ⟨rfl,rfl⟩|fail)
   first|refine L_rs ?_|refine L_reg ?_ | skip
   refine S_Q [] rfl rfl (QY.idxO rfl rfl hk') ?_
   first|refine L_rs ?_|refine L_reg ?_ | skip
   refine S_Q [] rfl rfl (QY.ldYo rfl (by omega) rfl hx) ?_
   first|refine L_rs ?_|refine L_reg ?_ | skip
   refine S_Q [] rfl rfl (QY.cvBW rfl) ?_
   first|refine L_rs ?_|refine L_reg ?_ | skip
   refine S_Q [] rfl rfl (QY.mul (c:=((8*k:Nat):Int)) rfl rfl (by omega) (by omega) (by omega)) ?_
   first|refine L_rs ?_|refine L_reg ?_ | skip
   refine S_Q [] rfl rfl (QY.shlW (n:=8*k) rfl rfl) ?_
   first|refine L_rs ?_|refine L_reg ?_ | skip
   refine S_Q [] rfl rfl (QY.orW rfl rfl) ?_
   repeat' (first|refine qN ?_|refine dN ?_|refine dR ?_|refine d0 ?_|refine qB ?_|refine rT ?_|refine qT ?_|refine qU ?_|refine qL ?_|refine qK ?_|refine qF ?_|refine qE ?_|refine iF (fun h=>?_) (fun h=>?_)|refine aX ?_|refine aA ?_|refine aI (hn:=?_)|refine aM ?_|refine qR ?_|refine qS ?_|exact ⟨rfl,rfl⟩|fail)
   exact Nx.pick [0,3,7,8] [0] rfl rfl rfl ⟨min m 8-(k+1),by omega,k+1,rfl,by omega,by rw [getF,hg]; rfl,rfl⟩
  ·obtain rfl:k=min m 8:=by omega
   exact Nx.pick [3] [0] rfl rfl rfl ⟨by rw [getW,hlen]; rfl,rfl⟩
 rintro _ _ ⟨rfl,rfl⟩
 repeat' (first|refine qN ?_|refine dN ?_|refine dR ?_|refine d0 ?_|refine qB ?_|refine rT ?_|refine qT ?_|refine qU ?_|refine qL ?_|refine qK ?_|refine qF ?_|refine qE ?_|refine iF (fun h=>?_) (fun h=>?_)|refine aX ?_|refine aA ?_|refine aI (hn:=?_)|refine aM ?_|refine qR ?_|refine qS ?_|exact ⟨rfl,rfl⟩|fail)
set_option maxRecDepth 4000 in
theorem numPut_tr (v:BitVec 64):Tr Tryz.prog 267 [.int .i64 8,.int .u64 (v.toNat:Int)] [] (fun u K=>u=slB 0 8∧K=[BL (putB v 8)]):=by
 refine Tr.of Ro53 rfl ?_
 repeat' (first|refine qN ?_|refine dN ?_|refine dR ?_|refine d0 ?_|refine qB ?_|refine rT ?_|refine qT ?_|refine qU ?_|refine qL ?_|refine qK ?_|refine qF ?_|refine qE ?_|refine iF (fun h=>?_) (fun h=>?_)|refine aX ?_|refine aA ?_|refine aI (hn:=?_)|refine aM ?_|refine sP 9 (fun h=>?_) (fun h=>?_)|refine qR ?_|refine qS ?_|exact ⟨rfl,rfl⟩|fail)
 first|refine L_rs ?_|refine L_reg ?_ | skip
 refine eE rfl rfl (EW.mk (sz:=1) (bytes:=1) (k:=8) (zs:=byteC 0) rfl (by kernel_rfl) rfl rfl (by omega) (by omega)) ?_
 conv=>whnf
 refine S_done [] rfl (Nx.goL ?_)
 refine L_cut (fun l L=>l=[(5,slB 0 8)]∧L=[BL (putB v 8)]) ?_ ?_
 ·refine L_rs (S_done [] rfl (Nx.pick [1,5,16,17] [0] rfl rfl rfl ?_))
  refine L_block (L_loop (fun r l L=>∃ k:Nat,r=8-k∧k≤8∧l=[(1,.int .u64 (v.toNat:Int)),(5,slB 0 8),(16,.int .i64 8),(17,.int .i64 k)]∧L=[BL (putB v k++List.replicate (8-k) 0)]) 8 ⟨0,rfl,by omega,rfl,by rw [repC_rows (0:BitVec 8)]; rfl⟩ ?_)
  rintro r _ _ ⟨k,rfl,hk,rfl,rfl⟩
  have hl:=putB_length v k
  first|refine L_seq (L_rs (S_done [] rfl (Nx.goL (iF (fun h=>L_skip (Nx.goL ?_)) (fun h=>L_exit ?_)))))|refine L_rs (S_done [] rfl (Nx.goL (L_seq (iF (fun h=>L_skip (Nx.goL ?_)) (fun h=>L_exit ?_)))))
  ·have hk8:k<8:=by omega
   repeat' (first|refine qN ?_|refine dN ?_|refine dR ?_|refine d0 ?_|refine qB ?_|refine rT ?_|refine qT ?_|refine qU ?_|refine qL ?_|refine qK ?_|refine qF ?_|refine qE ?_|refine iF (fun h=>?_) (fun h=>?_)|refine aX ?_|refine aA ?_|refine aI (hn:=?_)|refine aM ?_|refine sP 9 (fun h=>?_) (fun h=>?_)|refine qR ?_|refine qS ?_|exact ⟨rfl,rfl⟩|fail)
   first|refine L_rs ?_|refine L_reg ?_ | skip
   refine S_Q [] rfl rfl (QY.shrW (n:=8*k) rfl rfl) ?_
   first|refine L_rs ?_|refine L_reg ?_ | skip
   refine S_Q [] rfl rfl (QY.cvWB rfl) ?_
   first|refine L_rs ?_|refine L_reg ?_ | skip
   refine S_Q [] rfl rfl (QY.idxN rfl rfl hk8) ?_
   first|refine L_rs ?_|refine L_reg ?_ | skip
   refine eE rfl rfl (EW.stY (k:=k) rfl rfl rfl (by simp; omega)) ?_
   conv=>whnf
   repeat' (first|refine qN ?_|refine dN ?_|refine dR ?_|refine d0 ?_|refine qB ?_|refine rT ?_|refine qT ?_|refine qU ?_|refine qL ?_|refine qK ?_|refine qF ?_|refine qE ?_|refine iF (fun h=>?_) (fun h=>?_)|refine aX ?_|refine aA ?_|refine aI (hn:=?_)|refine aM ?_|refine sP 9 (fun h=>?_) (fun h=>?_)|refine qR ?_|refine qS ?_|exact ⟨rfl,rfl⟩|fail)
   refine Nx.pick [1,5,16,17] [0] rfl rfl rfl ⟨8-(k+1),by omega,k+1,rfl,by omega,rfl,?_⟩
   have e:(putB v k++List.replicate (8-k) 0).set k ((v >>> (8*k)).setWidth 8)=putB v (k+1)++List.replicate (8-(k+1)) 0:=by
    rw [List.set_append_right _ _ (by omega),hl,Nat.sub_self,show 8-k=(8-(k+1))+1 by omega,List.replicate_succ,List.set_cons_zero,putB,List.append_assoc]; rfl
   rw [← e]; rfl
  ·obtain rfl:k=8:=by omega
   exact Nx.pick [5] [0] rfl rfl rfl ⟨rfl,by rw [Nat.sub_self,List.replicate_zero,List.append_nil]; rfl⟩
 rintro _ _ ⟨rfl,rfl⟩
 repeat' (first|refine qN ?_|refine dN ?_|refine dR ?_|refine d0 ?_|refine qB ?_|refine rT ?_|refine qT ?_|refine qU ?_|refine qL ?_|refine qK ?_|refine qF ?_|refine qE ?_|refine iF (fun h=>?_) (fun h=>?_)|refine aX ?_|refine aA ?_|refine aI (hn:=?_)|refine aM ?_|refine sP 9 (fun h=>?_) (fun h=>?_)|refine qR ?_|refine qS ?_|exact ⟨rfl,rfl⟩|fail)
 exact L_ret (RetQ.pick [0] rfl rfl rfl rfl ⟨rfl,rfl⟩)
theorem arenaWord_ok (bs:Bytes) (hb:bs.length≤65536) (i:Nat) (h:i+8≤bs.length) (h8:i % 8=0):Tr Tryz.prog 212 [ptr 0,.int .i64 i] (AL bs) (fun v K=>v=.tuple ⟨[.int .u64 ((wordB bs i).toNat:Int),.int .i64 0]⟩∧K=AL bs):=by
 have hI:=arenaword_tr bs hb i
 rw [errW_ok h h8] at hI
 have hG:=numGet_tr bs i (i+8-i) (bs.length-i) (by omega) hb
 refine Tr.of Ro3 rfl ?_
 repeat' (first|refine qN ?_|refine dN ?_|refine dR ?_|refine d0 ?_|refine rT ?_|refine qT ?_|refine qU ?_|refine qL ?_|refine qK ?_|refine iF (fun h=>?_) (fun h=>?_)|refine aA ?_|refine aI (hn:=?_)|refine qR ?_|refine qS ?_|exact ⟨rfl,rfl⟩|fail)
 first|refine L_rs ?_|refine L_reg ?_ | skip
 refine cP [0,1] (hI) ?_
 repeat' (first|refine qN ?_|refine dN ?_|refine dR ?_|refine d0 ?_|refine rT ?_|refine qT ?_|refine qU ?_|refine qL ?_|refine qK ?_|refine iF (fun h=>?_) (fun h=>?_)|refine aA ?_|refine aI (hn:=?_)|refine qR ?_|refine qS ?_|exact ⟨rfl,rfl⟩|fail)
 first|refine L_rs ?_|refine L_reg ?_ | skip
 refine S_Q [] rfl rfl (QY.slc0 (b:=1) (lo':=i) (hi':=i+8) rfl rfl rfl (by omega) (by omega)) ?_
 first|refine L_rs ?_|refine L_reg ?_ | skip
 refine cP [1] (hG) ?_
 repeat' (first|refine qN ?_|refine dN ?_|refine dR ?_|refine d0 ?_|refine rT ?_|refine qT ?_|refine qU ?_|refine qL ?_|refine qK ?_|refine iF (fun h=>?_) (fun h=>?_)|refine aA ?_|refine aI (hn:=?_)|refine qR ?_|refine qS ?_|exact ⟨rfl,rfl⟩|fail)
 refine ⟨?_,rfl⟩
 rw [show i+8-i=8 by omega]; rfl
theorem arenaSetWord_ok (bs:Bytes) (hb:bs.length≤65536) (i:Nat) (h:i+8≤bs.length) (h8:i % 8=0) (x:BitVec 64):Tr Tryz.prog 260 [ptr 0,.int .i64 i,.int .u64 (x.toNat:Int)] (AL bs) (fun v K=>v=.int .i64 0∧K=AL (overB bs i (putB x 8))):=by
 have hI:=arenaword_tr bs hb i
 rw [errW_ok h h8] at hI
 rw [AL_over (by rw [putB_length]; exact h)]
 refine Tr.of Ro2 rfl ?_
 repeat' (first|refine qN ?_|refine dN ?_|refine dR ?_|refine d0 ?_|refine rT ?_|refine qT ?_|refine qU ?_|refine qL ?_|refine qK ?_|refine iF (fun h=>?_) (fun h=>?_)|refine aI (hn:=?_)|refine qR ?_|refine qS ?_|exact ⟨rfl,rfl⟩|fail)
 first|refine L_rs ?_|refine L_reg ?_ | skip
 refine cP [0,1] (hI) ?_
 repeat' (first|refine qN ?_|refine dN ?_|refine dR ?_|refine d0 ?_|refine rT ?_|refine qT ?_|refine qU ?_|refine qL ?_|refine qK ?_|refine iF (fun h=>?_) (fun h=>?_)|refine aI (hn:=?_)|refine qR ?_|refine qS ?_|exact ⟨rfl,rfl⟩|fail)
 first|refine L_rs ?_|refine L_reg ?_ | skip
 refine S_Q [] rfl rfl (QY.slc0 (b:=1) (lo':=i) (hi':=bs.length) rfl rfl rfl (by omega) (by omega)) ?_
 first|refine L_rs ?_|refine L_reg ?_ | skip
 refine cF [] (numPut_tr x) ?_
 conv=>whnf
 first|refine L_rs ?_|refine L_reg ?_ | skip
 refine eE rfl rfl (EW.copyg (i:=i) (j:=0) (xs:=bs) (ys:=putB x 8) byteC_ok rfl (by kernel_rfl) rfl rfl rfl rfl (by omega) (by rw [putB_length]; omega) (by decide)) ?_
 conv=>whnf
 repeat' (first|refine qN ?_|refine dN ?_|refine dR ?_|refine d0 ?_|refine rT ?_|refine qT ?_|refine qU ?_|refine qL ?_|refine qK ?_|refine iF (fun h=>?_) (fun h=>?_)|refine aI (hn:=?_)|refine qR ?_|refine qS ?_|exact ⟨rfl,rfl⟩|fail)
 rw [← overB_copy bs i (putB x 8) (sn:=8) (dn:=bs.length-i) (by rw [putB_length]) (by omega)]
 exact ⟨rfl,rfl⟩
end Go.Proofs.YtblibdfcnplfhaaGreat
end
section
namespace Go.Tum.Base
open Go Go.Tum Go.Proofs.YtblibdfcnplfhaaGreat
set_option maxRecDepth 4000
structure Qr where
 xs:List Int
 f:Nat
 l:List Int
 most:Nat
theorem rowsI:∀ xs:List Int,rowsC intC xs=xs.map (Value.int .i64)
 | []=>rfl
 | a::r=>by show Value.int .i64 a::rowsC intC r=_; rw [rowsI r]; rfl
def QC (xs:List Int) (f n m:Int):List Value:=rowsC intC xs++[.int .i64 f,.int .i64 n,.int .i64 m]
def Qr.cells (q:Qr):List Value:=QC q.xs q.f q.l.length q.most
section
variable {xs:List Int} (hx:xs.length=65) (f n m:Int)
include hx
theorem QC.e:(rowsC intC xs).length=65:=by rw [rowsC_length intC_ok,hx]
theorem QC.c65:(QC xs f n m)[65]?=some (.int .i64 f):=by
 unfold QC
 rw [List.getElem?_append_right (by rw [QC.e hx]; exact Nat.le_refl _),QC.e hx]; rfl
theorem QC.c66:(QC xs f n m)[66]?=some (.int .i64 n):=by
 unfold QC
 rw [List.getElem?_append_right (by rw [QC.e hx]; decide),QC.e hx]; rfl
theorem QC.c67:(QC xs f n m)[67]?=some (.int .i64 m):=by
 unfold QC
 rw [List.getElem?_append_right (by rw [QC.e hx]; decide),QC.e hx]; rfl
theorem QC.len:(QC xs f n m).length=68:=by
 unfold QC
 rw [List.length_append,QC.e hx]; rfl
theorem QC.cx {k:Nat} {a:Int} (hk:xs[k]?=some a):(QC xs f n m)[k*1]?=some (.int .i64 a):=by
 have hlt:=(List.getElem?_eq_some_iff.1 hk).1
 unfold QC
 rw [List.getElem?_append_left (by rw [QC.e hx]; omega)]
 have:=rowsC_cell intC_ok (j:=0) hk (by decide)
 rw [Nat.add_zero] at this
 exact this
theorem QC.s65 (u:Int):(QC xs f n m).set 65 (.int .i64 u)=QC xs u n m:=by
 unfold QC
 rw [List.set_append_right _ _ (by rw [QC.e hx]; exact Nat.le_refl _),QC.e hx]; rfl
theorem QC.s66 (u:Int):(QC xs f n m).set 66 (.int .i64 u)=QC xs f u m:=by
 unfold QC
 rw [List.set_append_right _ _ (by rw [QC.e hx]; decide),QC.e hx]; rfl
theorem QC.sx {k:Nat} (hk:k<65) (a:Int):(QC xs f n m).set (k*1) (.int .i64 a)=QC (xs.set k a) f n m:=by
 unfold QC
 rw [List.set_append_left _ _ (by rw [QC.e hx]; omega)]
 congr 1
 rw [rowsI,rowsI,List.map_set,Nat.mul_one]
end
structure Qr.Ok (q:Qr):Prop where
 x:q.xs.length=65
 f:q.f<65
 m:q.most≤64
 n:q.l.length≤q.most
 at_:∀ (i:Nat) (a:Int),q.l[i]?=some a→q.xs[(q.f+i) % 65]?=some a
def Qr.push (q:Qr) (a:Int):Qr:=⟨q.xs.set ((q.f+q.l.length) % 65) a,q.f,q.l++[a],q.most⟩
def Qr.pop (q:Qr):Qr:=⟨q.xs,(q.f+1) % 65,q.l.tail,q.most⟩
def Qr.put (q:Qr) (a:Int):Qr:=if q.l.length+1≤q.most then q.push a else (q.push a).pop
structure Qr.Ok1 (q:Qr):Prop where
 x:q.xs.length=65
 f:q.f<65
 m:q.most≤64
 n:q.l.length≤q.most+1
 at_:∀ (i:Nat) (a:Int),q.l[i]?=some a→q.xs[(q.f+i) % 65]?=some a
theorem Qr.Ok.push {q:Qr} (h:q.Ok) (a:Int):(q.push a).Ok1:=by
 have h1:=h.n
 have h2:=h.m
 refine ⟨by show (q.xs.set _ _).length=65; rw [List.length_set]; exact h.x,h.f,h.m,by show (q.l++[a]).length≤_; rw [List.length_append]; simp; exact h1,fun i b hi=>?_⟩
 have hi:(q.l++[a])[i]?=some b:=hi
 show (q.xs.set ((q.f+q.l.length) % 65) a)[(q.f+i) % 65]?=some b
 have hf:=h.f
 rw [List.getElem?_set]
 by_cases e:i<q.l.length
 ·rw [List.getElem?_append_left e] at hi
  rw [if_neg (by omega)]
  exact h.at_ i b hi
 ·have hlt:=(List.getElem?_eq_some_iff.1 hi).1
  rw [List.length_append,List.length_singleton] at hlt
  obtain rfl:i=q.l.length:=by omega
  rw [List.getElem?_append_right (Nat.le_refl _),Nat.sub_self] at hi
  rw [if_pos rfl,if_pos (by rw [h.x]; omega)]
  exact hi
end Go.Tum.Base
namespace Go.Proofs.YtblibdfcnplfhaaGreat
open Go Go.Tum Go.Tum.Base
set_option maxRecDepth 4000
abbrev QB (q:Qr):LB:=.gro 1 q.cells
theorem qLen_tr (xs:List Int) (hx:xs.length=65) (f n m:Int):Tr Tryz.prog 117 [ptr 0] [.gro 1 (QC xs f n m)] (fun v K=>v=.int .i64 n∧K=[.gro 1 (QC xs f n m)]):=by
 refine Tr.of Ro65 rfl ?_
 repeat' (first|refine qN ?_|refine dN ?_|refine dR ?_|refine d0 ?_|refine rT ?_|refine qT ?_|refine qU ?_|refine qL ?_|refine qK ?_|refine iF (fun h=>?_) (fun h=>?_)|refine S_Q [] rfl rfl (QY.ldg rfl rfl (QC.c66 hx f n m) rfl) ?_|refine aI (hn:=?_)|refine qR ?_|refine qS ?_|exact ⟨rfl,rfl⟩|fail)
theorem qTake_tr (xs:List Int) (hx:xs.length=65) (f n m:Nat) (hf:f<65) (hn:0<n) (hn2:n≤65) (a:Int) (ha:xs[f]?=some a):Tr Tryz.prog 216 [ptr 0] [.gro 1 (QC xs f n m)] (fun v K=>v=.tuple ⟨[.int .i64 a,.bool true]⟩∧K=[.gro 1 (QC xs ((f+1) % 65:Nat) (n-1:Nat) m)]):=by
 have hL:=qLen_tr xs hx f n m
 refine Tr.of Ro67 rfl ?_
 repeat' (first|refine qN ?_|refine dN ?_|refine dR ?_|refine d0 ?_|refine rT ?_|refine qT ?_|refine qU ?_|refine qL ?_|refine qK ?_|refine iF (fun h=>?_) (fun h=>?_)|refine aX ?_|refine cP [0] (hL) ?_|refine S_Q [] rfl rfl (QY.ldg rfl rfl (QC.c65 hx f n m) rfl) ?_|refine S_Q [] rfl rfl (QY.idxaN (k:=f) rfl rfl hf) ?_|refine S_Q [] rfl rfl (QY.ldg rfl rfl (QC.cx hx f n m ha) rfl) ?_|refine S_Q [] rfl rfl (QY.remN (c:=(((f+1) % 65:Nat):Int)) rfl rfl (by omega) (by omega) (by omega)) ?_|refine aA ?_|refine aS ?_|refine aI (hn:=?_)|refine aR ?_|refine qR ?_|refine qS ?_|exact ⟨rfl,rfl⟩|fail)
 all_goals try (exfalso; omega)
 first|refine L_rs ?_|refine L_reg ?_ | skip
 refine eE rfl rfl (EW.stg rfl rfl rfl rfl (by rw [QC.len hx]; decide)) ?_
 conv=>whnf
 rw [QC.s65 hx]
 repeat' (first|refine qN ?_|refine dN ?_|refine dR ?_|refine d0 ?_|refine rT ?_|refine qT ?_|refine qU ?_|refine qL ?_|refine qK ?_|refine iF (fun h=>?_) (fun h=>?_)|refine aX ?_|refine S_Q [] rfl rfl (QY.ldg rfl rfl (QC.c66 hx _ n m) rfl) ?_|refine S_Q [] rfl rfl (QY.sub (c:=((n-1:Nat):Int)) rfl rfl (by omega) (by omega) (by omega)) ?_|refine aA ?_|refine aS ?_|refine aI (hn:=?_)|refine aR ?_|refine qR ?_|refine qS ?_|exact ⟨rfl,rfl⟩|fail)
 first|refine L_rs ?_|refine L_reg ?_ | skip
 refine eE rfl rfl (EW.stg rfl rfl rfl rfl (by rw [QC.len hx]; decide)) ?_
 conv=>whnf
 rw [QC.s66 hx]
 repeat' (first|refine qN ?_|refine dN ?_|refine dR ?_|refine d0 ?_|refine rT ?_|refine qT ?_|refine qU ?_|refine qL ?_|refine qK ?_|refine iF (fun h=>?_) (fun h=>?_)|refine aX ?_|refine aA ?_|refine aS ?_|refine aI (hn:=?_)|refine aR ?_|refine qR ?_|refine qS ?_|exact ⟨rfl,rfl⟩|fail)
theorem qPut_tr (xs:List Int) (hx:xs.length=65) (f n m:Nat) (hf:f<65) (hn:n≤m) (hm:m≤64) (a:Int) (x:Int) (ha:(xs.set ((f+n) % 65) a)[f]?=some x):Tr Tryz.prog 172 [ptr 0,.int .i64 a] [.gro 1 (QC xs f n m)] (fun v K=>v=(if n+1≤m then .tuple ⟨[.int .i64 0,.bool false]⟩ else .tuple ⟨[.int .i64 x,.bool true]⟩)∧K=[.gro 1 (if n+1≤m then QC (xs.set ((f+n) % 65) a) f (n+1:Nat) m else QC (xs.set ((f+n) % 65) a) ((f+1) % 65:Nat) n m)]):=by
 have hx2:(xs.set ((f+n) % 65) a).length=65:=by rw [List.length_set]; exact hx
 have hT:=qTake_tr _ hx2 f (n+1) m hf (by omega) (by omega) x ha
 rw [show n+1-1=n by omega] at hT
 by_cases hq:n+1≤m
 ·rw [if_pos hq,if_pos hq]
  refine Tr.of Ro66 rfl ?_
  repeat' (first|refine qN ?_|refine dN ?_|refine dR ?_|refine d0 ?_|refine rT ?_|refine qT ?_|refine qU ?_|refine qL ?_|refine qK ?_|refine iF (fun h=>?_) (fun h=>?_)|refine aX ?_|refine S_Q [] rfl rfl (QY.ldg rfl rfl (QC.c65 hx f n m) rfl) ?_|refine S_Q [] rfl rfl (QY.ldg rfl rfl (QC.c66 hx f n m) rfl) ?_|refine S_Q [] rfl rfl (QY.remN (c:=(((f+n) % 65:Nat):Int)) rfl rfl (by omega) (by omega) (by omega)) ?_|refine S_Q [] rfl rfl (QY.idxaN (k:=(f+n) % 65) rfl rfl (by omega)) ?_|refine aA ?_|refine aI (hn:=?_)|refine aR ?_|refine qR ?_|refine qS ?_|exact ⟨rfl,rfl⟩|fail)
  first|refine L_rs ?_|refine L_reg ?_ | skip
  refine eE rfl rfl (EW.stg rfl rfl rfl rfl (by rw [QC.len hx]; omega)) ?_
  conv=>whnf
  rw [QC.sx hx f n m (by omega)]
  repeat' (first|refine qN ?_|refine dN ?_|refine dR ?_|refine d0 ?_|refine rT ?_|refine qT ?_|refine qU ?_|refine qL ?_|refine qK ?_|refine iF (fun h=>?_) (fun h=>?_)|refine aX ?_|refine S_Q [] rfl rfl (QY.ldg rfl rfl (QC.c66 hx2 f n m) rfl) ?_|refine S_Q [] rfl rfl (QY.add (c:=((n+1:Nat):Int)) rfl rfl (by omega) (by omega) (by omega)) ?_|refine aA ?_|refine aI (hn:=?_)|refine aR ?_|refine qR ?_|refine qS ?_|exact ⟨rfl,rfl⟩|fail)
  first|refine L_rs ?_|refine L_reg ?_ | skip
  refine eE rfl rfl (EW.stg rfl rfl rfl rfl (by rw [QC.len hx2]; decide)) ?_
  conv=>whnf
  rw [QC.s66 hx2]
  repeat' (first|refine qN ?_|refine dN ?_|refine dR ?_|refine d0 ?_|refine rT ?_|refine qT ?_|refine qU ?_|refine qL ?_|refine qK ?_|refine iF (fun h=>?_) (fun h=>?_)|refine aX ?_|refine S_Q [] rfl rfl (QY.ldg rfl rfl (QC.c66 hx2 f (n+1:Nat) m) rfl) ?_|refine S_Q [] rfl rfl (QY.ldg rfl rfl (QC.c67 hx2 f (n+1:Nat) m) rfl) ?_|(refine cF [0] (hT) ?_; conv=>whnf)|refine aA ?_|refine aI (hn:=?_)|refine aR ?_|refine qR ?_|refine qS ?_|exact ⟨rfl,rfl⟩|fail)
  all_goals first | done | (exfalso; omega)
 ·rw [if_neg hq,if_neg hq]
  refine Tr.of Ro66 rfl ?_
  repeat' (first|refine qN ?_|refine dN ?_|refine dR ?_|refine d0 ?_|refine rT ?_|refine qT ?_|refine qU ?_|refine qL ?_|refine qK ?_|refine iF (fun h=>?_) (fun h=>?_)|refine aX ?_|refine S_Q [] rfl rfl (QY.ldg rfl rfl (QC.c65 hx f n m) rfl) ?_|refine S_Q [] rfl rfl (QY.ldg rfl rfl (QC.c66 hx f n m) rfl) ?_|refine S_Q [] rfl rfl (QY.remN (c:=(((f+n) % 65:Nat):Int)) rfl rfl (by omega) (by omega) (by omega)) ?_|refine S_Q [] rfl rfl (QY.idxaN (k:=(f+n) % 65) rfl rfl (by omega)) ?_|refine aA ?_|refine aI (hn:=?_)|refine aR ?_|refine qR ?_|refine qS ?_|exact ⟨rfl,rfl⟩|fail)
  first|refine L_rs ?_|refine L_reg ?_ | skip
  refine eE rfl rfl (EW.stg rfl rfl rfl rfl (by rw [QC.len hx]; omega)) ?_
  conv=>whnf
  rw [QC.sx hx f n m (by omega)]
  repeat' (first|refine qN ?_|refine dN ?_|refine dR ?_|refine d0 ?_|refine rT ?_|refine qT ?_|refine qU ?_|refine qL ?_|refine qK ?_|refine iF (fun h=>?_) (fun h=>?_)|refine aX ?_|refine S_Q [] rfl rfl (QY.ldg rfl rfl (QC.c66 hx2 f n m) rfl) ?_|refine S_Q [] rfl rfl (QY.add (c:=((n+1:Nat):Int)) rfl rfl (by omega) (by omega) (by omega)) ?_|refine aA ?_|refine aI (hn:=?_)|refine aR ?_|refine qR ?_|refine qS ?_|exact ⟨rfl,rfl⟩|fail)
  first|refine L_rs ?_|refine L_reg ?_ | skip
  refine eE rfl rfl (EW.stg rfl rfl rfl rfl (by rw [QC.len hx2]; decide)) ?_
  conv=>whnf
  rw [QC.s66 hx2]
  repeat' (first|refine qN ?_|refine dN ?_|refine dR ?_|refine d0 ?_|refine rT ?_|refine qT ?_|refine qU ?_|refine qL ?_|refine qK ?_|refine iF (fun h=>?_) (fun h=>?_)|refine aX ?_|refine S_Q [] rfl rfl (QY.ldg rfl rfl (QC.c66 hx2 f (n+1:Nat) m) rfl) ?_|refine S_Q [] rfl rfl (QY.ldg rfl rfl (QC.c67 hx2 f (n+1:Nat) m) rfl) ?_|(refine cF [0] (hT) ?_; conv=>whnf)|refine aA ?_|refine aI (hn:=?_)|refine aR ?_|refine qR ?_|refine qS ?_|exact ⟨rfl,rfl⟩|fail)
  all_goals first | done | (exfalso; omega)
theorem qPut_ok (q:Qr) (h:q.Ok) (a:Int):Tr Tryz.prog 172 [ptr 0,.int .i64 a] [QB q] (fun v K=>v=(if q.l.length+1≤q.most then .tuple ⟨[.int .i64 0,.bool false]⟩ else .tuple ⟨[.int .i64 ((q.l++[a]).headD 0),.bool true]⟩)∧K=[QB (q.put a)]):=by
 have h1:=h.push a
 have hl:(q.l++[a])[0]?=some ((q.l++[a]).headD 0):=by cases q.l <;> rfl
 have hx:=h1.at_ 0 _ hl
 have hf:=h.f
 have hx:(q.xs.set ((q.f+q.l.length) % 65) a)[(q.f+0) % 65]?=some ((q.l++[a]).headD 0):=hx
 rw [show (q.f+0) % 65=q.f by omega] at hx
 have:=qPut_tr q.xs h.x q.f q.l.length q.most h.f h.n h.m a _ hx
 unfold QB Qr.put
 by_cases hq:q.l.length+1≤q.most
 ·rw [if_pos hq] at this ⊢
  rw [if_pos hq] at this
  rw [if_pos hq]
  have e:(q.push a).cells=QC (q.xs.set ((q.f+q.l.length) % 65) a) q.f (q.l.length+1:Nat) q.most:=by
   show QC _ _ (((q.l++[a]).length:Nat):Int) _=_
   rw [List.length_append]; rfl
  rw [e]; exact this
 ·rw [if_neg hq] at this ⊢
  rw [if_neg hq] at this
  rw [if_neg hq]
  have e:(q.push a).pop.cells=QC (q.xs.set ((q.f+q.l.length) % 65) a) ((q.f+1) % 65:Nat) (q.l.length:Nat) q.most:=by
   show QC _ _ (((q.l++[a]).tail.length:Nat):Int) _=_
   rw [List.length_tail,List.length_append]; rfl
  rw [e]; exact this
theorem qTake_ok (q:Qr) (h:q.Ok) {x:Int} {r:List Int} (hl:q.l=x::r):Tr Tryz.prog 216 [ptr 0] [QB q] (fun v K=>v=.tuple ⟨[.int .i64 x,.bool true]⟩∧K=[QB q.pop]):=by
 have hx:=h.at_ 0 x (by rw [hl]; rfl)
 have hf:=h.f
 have hn:=h.n
 have hm:=h.m
 rw [show (q.f+0) % 65=q.f by omega] at hx
 have:=qTake_tr q.xs h.x q.f q.l.length q.most h.f (by rw [hl]; simp) (by omega) x hx
 have e:q.pop.cells=QC q.xs ((q.f+1) % 65:Nat) (q.l.length-1:Nat) q.most:=by
  show QC _ _ ((q.l.tail.length:Nat):Int) _=_
  rw [List.length_tail]; rfl
 unfold QB
 rw [e]; exact this
theorem qTake_no (q:Qr) (h:q.Ok) (hl:q.l=[]):Tr Tryz.prog 216 [ptr 0] [QB q] (fun v K=>v=.tuple ⟨[.int .i64 0,.bool false]⟩∧K=[QB q]):=by
 have hL:Tr Tryz.prog 117 [ptr 0] [QB q] (fun v K=>v=.int .i64 0∧K=[QB q]):=by
  have:=qLen_tr q.xs h.x q.f q.l.length q.most
  rw [hl] at this
  unfold QB Qr.cells
  rw [hl]
  exact this
 refine Tr.of Ro67 rfl ?_
 repeat' (first|refine qN ?_|refine dN ?_|refine dR ?_|refine d0 ?_|refine rT ?_|refine qT ?_|refine qU ?_|refine qL ?_|refine qK ?_|refine iF (fun h=>?_) (fun h=>?_)|refine aX ?_|refine cP [0] (hL) ?_|refine aA ?_|refine aS ?_|refine aI (hn:=?_)|refine aR ?_|refine qR ?_|refine qS ?_|exact ⟨rfl,rfl⟩|fail)
def mostQ (w:Int):Nat:=(min (max w 0) 64).toNat
def newQ (w:Int):Qr:=⟨List.replicate 65 0,0,[],mostQ w⟩
theorem newQ_ok (w:Int):(newQ w).Ok:=⟨List.length_replicate ..,by show 0<65; decide,by show mostQ w≤64; unfold mostQ; omega,Nat.zero_le _,fun i a h=>by cases h⟩
theorem qNew_tr (w:Int):Tr Tryz.prog 79 [.int .i64 w] [] (fun v K=>v=ptr 0∧K=[QB (newQ w)]):=by
 refine Tr.of Ro64 rfl ?_
 repeat' (first|refine qN ?_|refine dN ?_|refine d0 ?_|refine aI (hn:=?_)|refine qR ?_|refine qS ?_|exact ⟨rfl,rfl⟩|fail)
 refine LWp.wk (wk_new (b:=0) 1 rfl (fun h=>absurd (congrArg List.length h) (by show ¬ (68=0); decide)) (by decide) rfl) ?_
 have e:imm false (imm true w 0) 64=((mostQ w:Nat):Int):=by unfold mostQ imm; simp; omega
 refine L_ret (RetQ.pick [0] rfl rfl rfl rfl ⟨rfl,?_⟩)
 show [LB.gro 1 (QC (List.replicate 65 0) 0 0 (imm false (imm true w 0) 64))]=[LB.gro 1 (QC (List.replicate 65 0) 0 0 ((mostQ w:Nat):Int))]
 rw [e]
end Go.Proofs.YtblibdfcnplfhaaGreat
end
section
namespace Go.Tum.Remote
open Go Go.Tum
structure Mail where
 n:Nat
 bt:Nat
 come:List (List Int)
 held:Int × Int→List Int
def upd (f:Int × Int→List Int) (k:Int × Int) (v:List Int):Int × Int→List Int:=fun k'=>if k'=k then v else f k'
theorem upd_same (f:Int × Int→List Int) (k:Int × Int) (v:List Int):upd f k v k=v:=by simp [upd]
theorem upd_ne (f:Int × Int→List Int) {k k':Int × Int} (v:List Int) (h:k'≠k):upd f k v k'=f k':=by simp [upd,h]
def Mail.row (s:Mail) (t:Nat):List Int:=s.come.getD t []
def Mail.pass (s:Mail) (f t:Int):Mail:={ s with come:=s.come.set t.toNat (s.row t.toNat++s.held (f,t)),held:=upd s.held (f,t) [] }
def Mail.put (s:Mail) (f t a:Int):Mail:={ s with held:=upd s.held (f,t) (s.held (f,t)++[a]) }
def Mail.post (s:Mail) (f t a:Int):Mail:=if s.bt≤((s.put f t a).held (f,t)).length then (s.put f t a).pass f t else s.put f t a
def Mail.next (s:Mail) (t:Int):Mail:={ s with come:=s.come.set t.toNat ((s.row t.toNat).drop 1) }
def Mail.waits (s:Mail) (t:Int):Nat:=if 0≤t∧t<s.n then (s.row t.toNat).length else 0
def Mail.Small (s:Mail):Prop:=s.n≤64∧∀ f t:Nat,f<s.n→t<s.n→(s.row t).length+(s.held ((f:Int),(t:Int))).length≤1000000
def Mail.new (threads batch:Int):Mail:={ n:=(min (max threads 0) 64).toNat,bt:=(min (max batch 1) 64).toNat,come:=List.replicate (min (max threads 0) 64).toNat [],held:=fun _=>[] }
def ints (l:List Int):List Value:=l.map (Value.int .i64)
theorem ints_length (l:List Int):(ints l).length=l.length:=by simp [ints]
theorem ints_append (a b:List Int):ints (a++b)=ints a++ints b:=by simp [ints]
theorem ints_one (l:List Int):∀ u∈ints l,one u=true:=by
 intro u hu; obtain ⟨x,_,rfl⟩:=List.mem_map.1 hu; rfl
abbrev encW:Int × Int→Value:=pairV
abbrev Own:=Nat→Option (Nat × Int × Int)
structure MailR (w:World) (p:Nat) (s:Mail) (own:Own) (cb hb:Nat) (vs:List Value) (m:List ((Int × Int) × Value × Nat)) (c:Nat):Prop where
 small:∀ b,own b≠none→b<w.heap.size
 op:own p=some (0,0,0)
 oc:own cb=some (1,0,0)
 oh:own hb=some (2,0,0)
 blk:Blk w p [.int .i64 s.n,.int .i64 s.bt,.slice (some ⟨cb,0,none⟩) s.n s.n,.map (some hb)]
 cblk:Blk w cb vs
 vlen:vs.length=s.n
 clen:s.come.length=s.n
 rows:∀ (t:Nat) (v:Value),vs[t]?=some v→∃ F,Sl w 1 v (s.row t).length (ints (s.row t)) F∧∀ b∈F,own b=some (3,(t:Int),0)
 map:Mp encW w hb m c
 wf:Wf m c
 ents:∀ e∈m,∃ F,Sl w 1 e.2.1 (s.held e.1).length (ints (s.held e.1)) F∧∀ b∈F,own b=some (4,e.1.1,e.1.2)
 absent:∀ k,mfind m k=none→s.held k=[]
def MailIs (w:World) (p:Nat) (s:Mail) (G:Nat→Prop):Prop:=∃ own cb hb vs m c,MailR w p s own cb hb vs m c∧G=fun b=>own b≠none
section
variable {w w':World} {p:Nat} {s:Mail} {own:Own} {cb hb:Nat} {vs:List Value} {m:List ((Int × Int) × Value × Nat)} {c:Nat}
theorem MailR.fr {G:Nat→Prop} (h:MailR w p s own cb hb vs m c) (hf:Fr G w w') (hd:∀ b,own b≠none→¬ G b):MailR w' p s own cb hb vs m c :=
 { h with
  small:=fun b hb=>Nat.lt_of_lt_of_le (h.small b hb) hf.size
  blk:=hf.blk h.blk (hd _ (by rw [h.op]; simp))
  cblk:=hf.blk h.cblk (hd _ (by rw [h.oc]; simp))
  rows:=fun t v hv=>let ⟨F,h1,h2⟩:=h.rows t v hv; ⟨F,h1.fr hf fun b hb=>hd b (by rw [h2 b hb]; simp),h2⟩
  map:=h.map.fr hf (hd _ (by rw [h.oh]; simp))
  ents:=fun e he=>let ⟨F,h1,h2⟩:=h.ents e he; ⟨F,h1.fr hf fun b hb=>hd b (by rw [h2 b hb]; simp),h2⟩ }
theorem MailIs.fr {G H:Nat→Prop} (h:MailIs w p s H) (hf:Fr G w w') (hd:∀ b,G b→H b→False):MailIs w' p s H:=by
 obtain ⟨own,cb,hb,vs,m,c,hR,rfl⟩:=h
 exact ⟨own,cb,hb,vs,m,c,hR.fr hf fun b hb hg=>hd b hg hb,rfl⟩
theorem MailIs.small {G:Nat→Prop} (h:MailIs w p s G):∀ b,G b→b<w.heap.size:=by
 obtain ⟨own,cb,hb,vs,m,c,hR,rfl⟩:=h
 exact hR.small
theorem MailR.cell (h:MailR w p s own cb hb vs m c):w.cell? ⟨p,0,none⟩=some (.int .i64 s.n)∧w.cell? ⟨p,1,none⟩=some (.int .i64 s.bt)∧w.cell? ⟨p,2,none⟩=some (.slice (some ⟨cb,0,none⟩) s.n s.n)∧w.cell? ⟨p,3,none⟩=some (.map (some hb)) :=
 ⟨h.blk.cell rfl,h.blk.cell rfl,h.blk.cell rfl,h.blk.cell rfl⟩
theorem MailR.rowAt (h:MailR w p s own cb hb vs m c) {t:Nat} (ht:t<s.n):∃ v F,vs[t]?=some v∧w.cell? ⟨cb,t,none⟩=some v∧Sl w 1 v (s.row t).length (ints (s.row t)) F∧∀ b∈F,own b=some (3,(t:Int),0):=by
 have hl:t<vs.length:=by rw [h.vlen]; exact ht
 obtain ⟨F,h1,h2⟩:=h.rows t vs[t] (List.getElem?_eq_getElem hl)
 exact ⟨vs[t],F,List.getElem?_eq_getElem hl,h.cblk.cell (List.getElem?_eq_getElem hl),h1,h2⟩
theorem MailR.entAt (h:MailR w p s own cb hb vs m c) (k:Int × Int):∃ F,Sl w 1 (((mfind m k).map (·.2.1)).getD (.slice none 0 0)) (s.held k).length (ints (s.held k)) F∧∀ b∈F,own b=some (4,k.1,k.2):=by
 cases hf:mfind m k with
 | none=>rw [h.absent k hf]; exact ⟨[],Sl.nil w 1,fun b hb=>by cases hb⟩
 | some e =>
  have hm:=List.mem_of_find?_eq_some hf
  have hk:e.1=k:=by simpa using List.find?_some hf
  obtain ⟨F,h1,h2⟩:=h.ents e hm
  rw [hk] at h1 h2
  exact ⟨F,h1,h2⟩
theorem mfind_del {k k':Int × Int}:mfind (mdel m k) k'=if k'=k then none else mfind m k':=by
 unfold mfind mdel
 induction m with
 | nil=>simp
 | cons x r ih =>
  by_cases hx:x.1=k
  ·simp only [List.filter_cons,hx,decide_true,Bool.not_true,Bool.false_eq_true,if_false]
   rw [ih]
   by_cases hk:k'=k
   ·simp [hk]
   ·simp [hk,hx,Ne.symm hk]
  ·simp only [List.filter_cons,hx,decide_false,Bool.not_false,if_true,List.find?_cons]
   by_cases hk:x.1=k'
   ·have:k'≠k:=fun e=>hx (hk.trans e)
    simp [hk,this]
   ·simp only [hk,decide_false]
    exact ih
theorem MailR.del (h:MailR w p s own cb hb vs m c) (k:Int × Int) (hf:Fr (·=hb) w w') (hm:Mp encW w' hb (mdel m k) c):MailR w' p { s with held:=upd s.held k [] } own cb hb vs (mdel m k) c:=by
 have nb:∀ b x,own b=some x→x≠(2,0,0)→b≠hb:=by
  intro b x h1 h2 e; subst e; rw [h.oh] at h1; cases h1; exact h2 rfl
 refine ⟨fun b hb=>Nat.lt_of_lt_of_le (h.small b hb) hf.size,h.op,h.oc,h.oh,hf.blk h.blk (nb _ _ h.op (by simp)),hf.blk h.cblk (nb _ _ h.oc (by simp)),h.vlen,h.clen,fun t v hv=>?_,hm,h.wf.del,fun e he=>?_,fun k' hk'=>?_⟩
 ·obtain ⟨F,h1,h2⟩:=h.rows t v hv
  exact ⟨F,h1.fr hf fun b hb=>nb _ _ (h2 b hb) (by simp),h2⟩
 ·obtain ⟨he1,he2⟩:=List.mem_filter.1 he
  have hne:e.1≠k:=by simpa using he2
  obtain ⟨F,h1,h2⟩:=h.ents e he1
  refine ⟨F,?_,h2⟩
  show Sl w' 1 e.2.1 (upd s.held k [] e.1).length (ints (upd s.held k [] e.1)) F
  rw [upd_ne _ _ hne]
  exact h1.fr hf fun b hb=>nb _ _ (h2 b hb) (by simp)
 ·show upd s.held k [] k'=[]
  rw [mfind_del] at hk'
  by_cases e:k'=k
  ·rw [e,upd_same]
  ·rw [if_neg e] at hk'
   rw [upd_ne _ _ e]; exact h.absent k' hk'
theorem MailR.setRow (h:MailR w p s own cb hb vs m c) {t:Nat} (ht:t<s.n) {v:Value} {xs:List Int} {F F':List Nat} {w1:World} (hS:Sl w1 1 v xs.length (ints xs) F') (hf:Fr (·∈F) w w1) (hF:∀ b∈F,own b=some (3,(t:Int),0)) (hF':∀ b∈F',b∈F∨w.heap.size≤b) :
  MailR (w1.setCell ⟨cb,t,none⟩ v) p { s with come:=s.come.set t xs } (fun b=>if b∈F' then some (3,(t:Int),0) else own b) cb hb (vs.set t v) m c:=by
 have fresh:∀ b∈F',own b≠none→own b=some (3,(t:Int),0):=by
  intro b hb hn
  rcases hF' b hb with h1 | h1
  ·exact hF b h1
  ·have:=h.small b hn; omega
 have old:∀ b x,own b=some x→x≠(3,(t:Int),0)→b∉F'∧b∉F:=by
  intro b x h1 h2
  refine ⟨fun hb=>?_,fun hb=>?_⟩
  ·have:=fresh b hb (by rw [h1]; simp)
   rw [h1] at this; cases this; exact h2 rfl
  ·have:=hF b hb
   rw [h1] at this; cases this; exact h2 rfl
 have f2:=Fr.setCell w1 ⟨cb,t,none⟩ v
 have hcbF:=old cb _ h.oc (by simp)
 have nc:∀ b x,own b=some x→x≠(1,0,0)→b≠cb:=by
  intro b x h1 h2 e; subst e; rw [h.oc] at h1; cases h1; exact h2 rfl
 have keep:∀ b x,own b=some x→x≠(3,(t:Int),0)→x≠(1,0,0)→∀ cs,Blk w b cs→Blk (w1.setCell ⟨cb,t,none⟩ v) b cs:=fun b x h1 h2 h3 cs hcs=>f2.blk (hf.blk hcs (old b x h1 h2).2) (nc b x h1 h3)
 have own':∀ b x,own b=some x→x≠(3,(t:Int),0)→(if b∈F' then some (3,(t:Int),0) else own b)=some x:=fun b x h1 h2=>by rw [if_neg (old b x h1 h2).1]; exact h1
 have hsz:w.heap.size≤(w1.setCell ⟨cb,t,none⟩ v).heap.size:=Nat.le_trans hf.size f2.size
 have slKeep:∀ (u:Value) (n:Nat) (cells:List Value) (A:List Nat) x,x≠(3,(t:Int),0)→x≠(1,0,0)→Sl w 1 u n cells A→(∀ b∈A,own b=some x)→Sl (w1.setCell ⟨cb,t,none⟩ v) 1 u n cells A:=by
  intro u n cells A x h1 h2 h3 h4
  exact (h3.fr hf fun b hb=>(old b x (h4 b hb) h1).2).fr f2 fun b hb=>nc b x (h4 b hb) h2
 have hcb1:Blk w1 cb vs:=hf.blk h.cblk hcbF.2
 refine ⟨fun b hb=>?_,own' _ _ h.op (by simp),own' _ _ h.oc (by simp),own' _ _ h.oh (by simp),keep _ _ h.op (by simp) (by simp) _ h.blk,hcb1.set t v,by simp [h.vlen],by simp [h.clen],fun t' v' hv'=>?_,?_,h.wf,fun e he=>?_,h.absent⟩
 ·by_cases e:b∈F'
  ·exact Nat.lt_of_lt_of_le (hS.lt b e) f2.size
  ·rw [if_neg e] at hb; exact Nat.lt_of_lt_of_le (h.small b hb) hsz
 ·by_cases e:t=t'
  ·subst e
   have htl:t<vs.length:=by rw [h.vlen]; exact ht
   rw [List.getElem?_set_self htl] at hv'
   cases hv'
   refine ⟨F',?_,fun b hb=>by rw [if_pos hb]⟩
   have hrow:Mail.row { s with come:=s.come.set t xs } t=xs:=by
    simp [Mail.row,h.clen,ht]
   rw [hrow]
   refine hS.fr f2 fun b hb e=>?_
   have:b=cb:=e
   subst this
   exact hcbF.1 hb
  ·rw [List.getElem?_set_ne e] at hv'
   obtain ⟨A,h1,h2⟩:=h.rows t' v' hv'
   have hne:((3,(t':Int),0):Nat × Int × Int)≠(3,(t:Int),0):=by
    intro h; apply e; simp at h; omega
   refine ⟨A,?_,fun b hb=>own' b _ (h2 b hb) hne⟩
   have hrow:Mail.row { s with come:=s.come.set t xs } t'=s.row t':=by
    simp [Mail.row,List.getElem?_set_ne e]
   rw [hrow]
   exact slKeep v' _ _ A _ hne (by simp) h1 h2
 ·exact (h.map.fr hf (old _ _ h.oh (by simp)).2).fr f2 (nc _ _ h.oh (by simp))
 ·obtain ⟨A,h1,h2⟩:=h.ents e he
  exact ⟨A,slKeep _ _ _ A _ (by simp) (by simp) h1 h2,fun b hb=>own' b _ (h2 b hb) (by simp)⟩
theorem mfind_none_iff {k:Int × Int} {m:List ((Int × Int) × Value × Nat)}:mfind m k=none↔∀ x∈m,x.1≠k:=by
 unfold mfind; simp [List.find?_eq_none]
theorem ment_val {k:Int × Int} {z:Value} {m:List ((Int × Int) × Value × Nat)} {c:Nat}:(ment m k z c).1.2.1=((mfind m k).map (·.2.1)).getD z:=by
 unfold ment
 cases mfind m k <;> rfl
theorem mem_ment {k:Int × Int} {z:Value} {x:(Int × Int) × Value × Nat} (hx:x∈(ment m k z c).2.1) (hk:x.1≠k):x∈m:=by
 unfold ment at hx
 cases h:mfind m k with
 | none =>
  rw [h] at hx
  rcases List.mem_append.1 hx with hx | hx
  ·exact hx
  ·simp at hx; rw [hx] at hk; exact absurd rfl hk
 | some e=>rw [h] at hx; exact hx
theorem ment_sub {k:Int × Int} {z:Value} {x:(Int × Int) × Value × Nat} (hx:x∈m):x∈(ment m k z c).2.1:=by
 unfold ment
 cases mfind m k with
 | none=>exact List.mem_append_left _ hx
 | some e=>exact hx
theorem MailR.setEnt (h:MailR w p s own cb hb vs m c) {k:Int × Int} {v z:Value} {xs:List Int} {F F':List Nat} (hf:Fr (fun b=>b=hb∨b∈F) w w') (hM:Mp encW w' hb (mput (ment m k z c).2.1 k v) (ment m k z c).2.2) (hS:Sl w' 1 v xs.length (ints xs) F')
  (hF:∀ b∈F,own b=some (4,k.1,k.2)) (hF':∀ b∈F',b∈F∨w.heap.size≤b) :
  MailR w' p { s with held:=upd s.held k xs } (fun b=>if b∈F' then some (4,k.1,k.2) else own b) cb hb vs (mput (ment m k z c).2.1 k v) (ment m k z c).2.2:=by
 have fresh:∀ b∈F',own b≠none→own b=some (4,k.1,k.2):=by
  intro b hb hn
  rcases hF' b hb with h1 | h1
  ·exact hF b h1
  ·have:=h.small b hn; omega
 have old:∀ b x,own b=some x→x≠(4,k.1,k.2)→b∉F'∧b∉F:=by
  intro b x h1 h2
  refine ⟨fun hb=>?_,fun hb=>?_⟩
  ·have:=fresh b hb (by rw [h1]; simp)
   rw [h1] at this; cases this; exact h2 rfl
  ·have:=hF b hb
   rw [h1] at this; cases this; exact h2 rfl
 have nh:∀ b x,own b=some x→x≠(2,0,0)→b≠hb:=by
  intro b x h1 h2 e; subst e; rw [h.oh] at h1; cases h1; exact h2 rfl
 have nG:∀ b x,own b=some x→x≠(4,k.1,k.2)→x≠(2,0,0)→¬ (b=hb∨b∈F):=fun b x h1 h2 h3 e=>by
  rcases e with e | e
  ·exact nh b x h1 h3 e
  ·exact (old b x h1 h2).2 e
 have own':∀ b x,own b=some x→x≠(4,k.1,k.2)→(if b∈F' then some (4,k.1,k.2) else own b)=some x:=fun b x h1 h2=>by rw [if_neg (old b x h1 h2).1]; exact h1
 have hwf:=(h.wf.ent (k:=k) z)
 refine ⟨fun b hb=>?_,own' _ _ h.op (by simp),own' _ _ h.oc (by simp),own' _ _ h.oh (by simp),hf.blk h.blk (nG _ _ h.op (by simp) (by simp)),hf.blk h.cblk (nG _ _ h.oc (by simp) (by simp)),h.vlen,h.clen,fun t v' hv'=>?_,hM,hwf.1.put v,fun e he=>?_,fun k' hk'=>?_⟩
 ·by_cases e:b∈F'
  ·exact hS.lt b e
  ·rw [if_neg e] at hb; exact Nat.lt_of_lt_of_le (h.small b hb) hf.size
 ·obtain ⟨A,h1,h2⟩:=h.rows t v' hv'
  exact ⟨A,h1.fr hf fun b hb=>nG _ _ (h2 b hb) (by simp) (by simp),fun b hb=>own' b _ (h2 b hb) (by simp)⟩
 ·obtain ⟨x,hx,rfl⟩:=List.mem_map.1 he
  by_cases e:x.1=k
  ·rw [if_pos e]
   refine ⟨F',?_,fun b hb=>?_⟩
   ·show Sl w' 1 v (upd s.held k xs x.1).length (ints (upd s.held k xs x.1)) F'
    rw [e,upd_same]; exact hS
   ·show (if b∈F' then some (4,k.1,k.2) else own b)=some (4,x.1.1,x.1.2)
    rw [if_pos hb,e]
  ·rw [if_neg e]
   obtain ⟨A,h1,h2⟩:=h.ents x (mem_ment hx e)
   have hne:((4,x.1.1,x.1.2):Nat × Int × Int)≠(4,k.1,k.2):=by
    intro h; apply e; simp at h; exact Prod.ext h.1 h.2
   refine ⟨A,?_,fun b hb=>own' b _ (h2 b hb) hne⟩
   show Sl w' 1 x.2.1 (upd s.held k xs x.1).length (ints (upd s.held k xs x.1)) A
   rw [upd_ne _ _ e]
   exact h1.fr hf fun b hb=>nG _ _ (h2 b hb) hne (by simp)
 ·show upd s.held k xs k'=[]
  rw [mfind_none_iff] at hk'
  by_cases e:k'=k
  ·subst e
   have hm:=hwf.2.1
   have:=hk' ((ment m k' z c).1.1,v,(ment m k' z c).1.2.2) (List.mem_map.2 ⟨_,hm,by rw [if_pos hwf.2.2]⟩)
   exact absurd hwf.2.2 this
  ·rw [upd_ne _ _ e]
   refine h.absent k' (mfind_none_iff.2 fun x hx ex=>?_)
   have hx1:=ment_sub (k:=k) (z:=z) (c:=c) hx
   have hne:x.1≠k:=by rw [ex]; exact e
   exact hk' x (List.mem_map.2 ⟨x,hx1,by rw [if_neg hne]⟩) ex
end
end Go.Tum.Remote
end
section
namespace Go.Tum.Remote
open Go Go.Tum
def sumN (g:Nat→Nat):Nat→Nat
 | 0=>0
 | k+1=>sumN g k+g k
theorem sumN_congr {g g':Nat→Nat}:∀ (k:Nat),(∀ i,i<k→g i=g' i)→sumN g k=sumN g' k
 | 0,_=>rfl
 | k+1,h=>by simp only [sumN]; rw [sumN_congr k fun i hi=>h i (by omega),h k (by omega)]
theorem sumN_one {g g':Nat→Nat} {i:Nat}:∀ (k:Nat),i<k→(∀ j,j<k→j≠i→g j=g' j)→sumN g k+g' i=sumN g' k+g i
 | 0,h,_=>by omega
 | k+1,h,hj=>by
  simp only [sumN]
  by_cases e:i=k
  ·subst e
   rw [sumN_congr i fun j hjk=>hj j (by omega) (by omega)]; omega
  ·have:=sumN_one (g:=g) (g':=g') (i:=i) k (by omega) fun j hjk hne=>hj j (by omega) hne
   rw [hj k (by omega) (Ne.symm e)]; omega
theorem sumN_le {g:Nat→Nat} {i:Nat}:∀ (k:Nat),i<k→g i≤sumN g k
 | 0,h=>by omega
 | k+1,h=>by
  simp only [sumN]
  by_cases e:i=k
  ·subst e; omega
  ·have:=sumN_le (g:=g) k (i:=i) (by omega); omega
def Mail.load (s:Mail) (t:Nat):Nat:=(s.row t).length+sumN (fun f=>(s.held ((f:Int),(t:Int))).length) s.n
def Mail.tot (s:Mail):Nat:=sumN (fun t=>(s.row t).length) s.n+sumN (fun f=>sumN (fun t=>(s.held ((f:Int),(t:Int))).length) s.n) s.n
structure Mail.Ok (s:Mail) (j:Nat):Prop where
 n64:s.n≤64
 clen:s.come.length=s.n
 load:∀ t,t<s.n→s.load t≤j
theorem Mail.Ok.small {s:Mail} {j:Nat} (h:s.Ok j) (hj:j≤1000000):s.Small:=by
 refine ⟨h.n64,fun f t hf ht=>?_⟩
 have h1:=h.load t ht
 unfold Mail.load at h1
 have h2:=sumN_le (g:=fun f=>(s.held ((f:Int),(t:Int))).length) s.n hf
 omega
theorem new_row (a b:Int) (t:Nat):(Mail.new a b).row t=[]:=by
 unfold Mail.row Mail.new
 simp only [List.getD_eq_getElem?_getD,List.getElem?_replicate]
 split <;> rfl
theorem sumN_zero {g:Nat→Nat}:∀ k,(∀ i,i<k→g i=0)→sumN g k=0
 | 0,_=>rfl
 | k+1,h=>by simp only [sumN]; rw [sumN_zero k fun i hi=>h i (by omega),h k (by omega)]
theorem new_ok (a b:Int):(Mail.new a b).Ok 0:=by
 refine ⟨by simp only [Mail.new]; omega,by simp [Mail.new],fun t _=>?_⟩
 unfold Mail.load
 have e:sumN (fun f=>((Mail.new a b).held ((f:Int),(t:Int))).length) (Mail.new a b).n=0:=sumN_zero _ fun i _=>rfl
 rw [new_row,e]; simp
theorem next_row {s:Mail} {t:Nat} (hl:t<s.come.length) (t':Nat):(s.next t).row t'=if t=t' then (s.row t).drop 1 else s.row t':=by
 simp only [Mail.row,Mail.next,Int.toNat_natCast,List.getD_eq_getElem?_getD]
 by_cases e:t=t'
 ·subst e; rw [if_pos rfl,List.getElem?_set_self hl]; rfl
 ·rw [if_neg e,List.getElem?_set_ne e]
theorem next_ok {s:Mail} {j t:Nat} (h:s.Ok j) (ht:t<s.n) (hr:s.row t≠[]):(s.next t).Ok j∧(s.next t).tot+1=s.tot∧(s.next t).n=s.n:=by
 have hpos:1≤(s.row t).length:=by cases hq:s.row t with | nil=>exact absurd hq hr | cons x r=>simp
 refine ⟨⟨h.n64,by show (s.come.set _ _).length=s.n; simp [h.clen],fun t' ht'=>?_⟩,?_,rfl⟩
 ·have:=h.load t' ht'
  unfold Mail.load at *
  show ((s.next t).row t').length+sumN (fun f'=>(s.held ((f':Int),(t':Int))).length) s.n≤j
  rw [next_row (by rw [h.clen]; exact ht)]
  split
  ·rename_i e; subst e; rw [List.length_drop]; omega
  ·exact this
 ·unfold Mail.tot
  show sumN (fun t'=>((s.next t).row t').length) s.n+sumN (fun f'=>sumN (fun t'=>(s.held ((f':Int),(t':Int))).length) s.n) s.n+1=_
  have h0:=sumN_one (g:=fun t'=>((s.next t).row t').length) (g':=fun t'=>(s.row t').length) (i:=t) s.n ht (fun j _ hne=>by
   show ((s.next t).row j).length=_
   rw [next_row (by rw [h.clen]; exact ht),if_neg (Ne.symm hne)])
  have hr2:((s.next t).row t).length+1=(s.row t).length:=by
   rw [next_row (by rw [h.clen]; exact ht),if_pos rfl,List.length_drop]; omega
  omega
end Go.Tum.Remote
end
section
namespace Go.Proofs.YtblibdfcnplfhaaGreat
open Go Go.Tum Go.Tum.Remote
set_option maxRecDepth 8000
theorem way_law:KeyLaw Tryz.prog 193 pairV :=
 keyLaw_pair (pair_equal (f1:=⟨"from",3,0,false, "", "tumbrel/remote",0⟩) (f2:=⟨"to",3,1,false, "", "tumbrel/remote",8⟩) (by kernel_rfl) (by kernel_rfl) (by kernel_rfl) (by decide) (by decide) rfl rfl Tryz.underlying3 Tryz.underlying3) ⟨_,Tryz.underlying193⟩ (fun _ _ _=>by kernel_rfl)
theorem zero_ints (w:World):(zeroValue 36).run Tryz.prog w=.ok (.slice none 0 0) w:=by kernel_rfl
theorem int_info:∃ i z,Tryz.prog.info? 3=some i∧i.size=1∧i.bytes=8∧i.zero=some z∧z.cells.size=1∧∀ u∈z.cells.toList,one u=true :=
 ⟨_,.int .i64 0,rfl,by kernel_rfl,by kernel_rfl,by kernel_rfl,rfl,by simp [Value.cells,one]⟩
theorem ints_elem:ElemT Tryz.prog 36 3 1 8:=⟨Tryz.underlying36,int_info⟩
theorem in_ok {w:World} {b:Nat} {n:Int} (t:Int) (h:w.cell? ⟨b,0,none⟩=some (.int .i64 n)):Does Tryz.prog 201 #[.pointer (some ⟨b,0,none⟩),.int .i64 t] w fun v w'=>v=.bool (decide (0≤t∧t<n))∧w'=w:=by
 refine Ec87 rfl ?_
 refine w_rs (s_end rfl (n_all ?_))
 refine w_rs (s_split 11 rfl rfl rfl (fun h1=>?_) (fun h1=>?_))
 ·have h1':0≤t:=by simpa using h1
  refine s_ld rfl rfl rfl h (s_end rfl (n_all ?_))
  exact w_ret (RQ.one (t:=4) rfl (.inl rfl) rfl ⟨by simp [h1'],rfl⟩)
 ·have h1':t<0:=by simpa using h1
  refine s_end rfl (n_all ?_)
  exact w_ret (RQ.one (t:=4) rfl (.inl rfl) rfl ⟨by simp; omega,rfl⟩)
theorem pass_ok {w:World} {p:Nat} {s:Mail} {own:Own} {cb hb:Nat} {vs:List Value} {m:List ((Int × Int) × Value × Nat)} {c:Nat} (h:MailR w p s own cb hb vs m c) {f t:Int} (ht0:0≤t) (ht1:t<s.n)
  (hlen:(s.row t.toNat).length+(s.held (f,t)).length≤1000000000) :
  Does Tryz.prog 202 #[.pointer (some ⟨p,0,none⟩),.agg #[.int .i64 f,.int .i64 t]] w fun v w' =>
   v=.int .i64 (s.held (f,t)).length∧∃ G',MailIs w' p (s.pass f t) G'∧Grow (fun b=>own b≠none) G' w w':=by
 obtain ⟨tn,rfl⟩:=Int.eq_ofNat_of_zero_le ht0
 have htn:tn<s.n:=by omega
 simp only [Int.toNat_natCast] at hlen
 refine Ec88 rfl ?_
 refine w_rs (s_box rfl rfl rfl trivial ?_)
 have hf1:Fr (fun _=>False) w (w.alloc (.cells (Value.agg #[.int .i64 f,.int .i64 (tn:Int)]).cells 193)):=Fr.alloc _ w _
 have hB1:Blk (w.alloc (.cells (Value.agg #[.int .i64 f,.int .i64 (tn:Int)]).cells 193)) w.heap.size [.int .i64 f,.int .i64 (tn:Int)]:=Blk.new w _ _
 generalize w.alloc (.cells (Value.agg #[.int .i64 f,.int .i64 (tn:Int)]).cells 193)=w1 at hf1 hB1
 have hR1:MailR w1 p s own cb hb vs m c:=h.fr hf1 fun _ _ hg=>hg
 have hnew:own w.heap.size=none:=by
  cases hq:own w.heap.size with
  | none=>rfl
  | some x=>have:=h.small w.heap.size (by rw [hq]; simp); omega
 obtain ⟨c0,c1,c2,c3⟩:=hR1.cell
 refine s_end rfl (n_all ?_)
 -- what is held
 obtain ⟨Fe,hSe,hFe⟩:=hR1.entAt (f,(tn:Int))
 refine w_rs (s_ld rfl rfl rfl c3 (s_ldn (vs:=[.int .i64 f,.int .i64 (tn:Int)]) rfl rfl rfl rfl hB1.pair (s_raw rfl rfl (lookup_Y (k:=(f,(tn:Int))) Tryz.underlying189 way_law zero_ints rfl rfl hR1.map rfl) ?_)))
 generalize hlv:((mfind m (f,(tn:Int))).map (·.2.1)).getD (.slice none 0 0)=lv at hSe
 refine s_end rfl (n_pick [0,1,3,5] rfl ?_)
 -- it is deleted
 refine w_rs (s_ld rfl rfl rfl c3 (s_ldn (vs:=[.int .i64 f,.int .i64 (tn:Int)]) rfl rfl rfl rfl hB1.pair (s_rawE rfl rfl (delete_W (k:=(f,(tn:Int))) Tryz.underlying189 way_law rfl rfl hR1.map hR1.wf (fun w2 hM2 hf2 _=>⟨trivial,?_⟩)))))
 have hR2:=hR1.del (f,(tn:Int)) hf2 hM2
 have hnb:w.heap.size≠hb:=fun e=>by rw [e,h.oh] at hnew; cases hnew
 have hB2:=hf2.blk hB1 hnb
 have hSe2:Sl w2 1 lv (s.held (f,(tn:Int))).length (ints (s.held (f,(tn:Int)))) Fe:=hSe.fr hf2 fun b hb' e=>by
  have e':b=hb:=e
  have:=hFe b hb'
  rw [e',h.oh] at this; cases this
 clear hSe hB1 c0 c1 c2 c3
 obtain ⟨c0,c1,c2,c3⟩:=hR2.cell
 obtain ⟨v,F,hv,hvc,hS,hF⟩:=hR2.rowAt htn
 refine s_end rfl (n_pick [0,1,3,5] rfl ?_)
 -- the row grows
 refine w_rs (s_ld rfl rfl rfl c2 (s_ld rfl rfl rfl (hB2.cell rfl) (s_ld rfl rfl rfl c2 (s_ld rfl rfl rfl (hB2.cell rfl) (s_idx rfl rfl rfl rfl (by omega) (by omega) (s_ld rfl rfl rfl (by simpa using hvc) ?_))))))
 refine s_rawE rfl rfl (append_W ints_elem ⟨_,Tryz.underlying36⟩ rfl rfl hS hSe2.rd (by show (2*((s.row tn).length+_)+2048)*8≤_; omega) (by omega) (fun v' w3 F' hS' hf3 hF'=>?_))
 have hpF:¬ p∈F:=fun e=>by have:=hF p e; rw [h.op] at this; cases this
 have hwF:¬ w.heap.size∈F:=fun e=>by have:=hF _ e; rw [hnew] at this; cases this
 have hcF:¬ cb∈F:=fun e=>by have:=hF _ e; rw [h.oc] at this; cases this
 have kp:w3.cell? ⟨p,2,none⟩=w2.cell? ⟨p,2,none⟩:=hf3.cell hR2.blk.lt hpF
 have kw:w3.cell? ⟨w.heap.size,1,none⟩=w2.cell? ⟨w.heap.size,1,none⟩:=hf3.cell hB2.lt hwF
 refine ⟨⟨ld_keep rfl kw,ld_keep rfl kp,ld_keep rfl kw,ld_keep rfl kp,trivial⟩,?_⟩
 have hcb3:=hf3.blk hR2.cblk hcF
 have htv:tn<vs.length:=by rw [h.vlen]; exact htn
 refine s_idx rfl rfl rfl rfl (by omega) (by omega) (s_st rfl rfl rfl rfl hS'.one (hcb3.some (by simpa using htv)) (hcb3.frozen _) trivial (s_end rfl (n_pick [5] rfl ?_)))
 obtain ⟨la,lc,hlf⟩:=hSe2.form
 subst hlf
 refine w_rs (s_end rfl (n_all ?_))
 refine w_ret (RQ.one (t:=4) rfl (.inl rfl) rfl ⟨rfl,?_⟩)
 have hxs:(s.row tn).length+(s.held (f,(tn:Int))).length=(s.row tn++s.held (f,(tn:Int))).length:=by simp
 have hS'':Sl w3 1 v' (s.row tn++s.held (f,(tn:Int))).length (ints (s.row tn++s.held (f,(tn:Int)))) F':=by
  rw [← hxs,ints_append]; exact hS'
 have hfin:=hR2.setRow htn hS'' hf3 hF hF'
 have e1:(⟨cb,0+(Int.toNat (tn:Int))*1,none⟩:Addr)=⟨cb,tn,none⟩:=by simp
 rw [e1]
 have hG:Grow (fun b=>own b≠none) (fun b=>(if b∈F' then some (3,(tn:Int),0) else own b)≠none) w (w3.setCell ⟨cb,tn,none⟩ v'):=by
  refine ⟨?_,fun b hb'=>?_⟩
  ·refine (((hf1.mono (G:=fun b=>own b≠none) fun _ _ hx=>hx.elim).trans hf2 fun b _ e=>?_).trans hf3 fun b _ hb'=>?_).trans (Fr.setCell w3 ⟨cb,tn,none⟩ v') fun b _ e=>?_
   ·rw [show b=hb from e,h.oh]; simp
   ·rw [hF b hb']; simp
   ·rw [show b=cb from e,h.oc]; simp
  ·by_cases e:b∈F'
   ·rcases hF' b e with h1 | h1
    ·left; rw [hF b h1]; simp
    ·right; exact Nat.le_trans (Nat.le_trans hf1.size hf2.size) h1
   ·left; rwa [if_neg e] at hb'
 exact ⟨_,⟨_,cb,hb,_,_,c,hfin,rfl⟩,hG⟩
theorem in_yes {w:World} {b:Nat} {n t:Int} (h:w.cell? ⟨b,0,none⟩=some (.int .i64 n)) (h0:0≤t) (h1:t<n):Does Tryz.prog 201 #[.pointer (some ⟨b,0,none⟩),.int .i64 t] w fun v w'=>v=.bool true∧w'=w :=
 (in_ok t h).mono fun v w' ⟨h2,h3⟩=>⟨by rw [h2]; simp [h0,h1],h3⟩
theorem in_no {w:World} {b:Nat} {n t:Int} (h:w.cell? ⟨b,0,none⟩=some (.int .i64 n)) (h0:¬ (0≤t∧t<n)):Does Tryz.prog 201 #[.pointer (some ⟨b,0,none⟩),.int .i64 t] w fun v w'=>v=.bool false∧w'=w :=
 (in_ok t h).mono fun v w' ⟨h2,h3⟩=>⟨by rw [h2]; simp [h0],h3⟩
theorem Waits_ok {w:World} {p:Nat} {s:Mail} {G:Nat→Prop} (h:MailIs w p s G) (t:Int):Does Tryz.prog 171 #[.pointer (some ⟨p,0,none⟩),.int .i64 t] w fun v w'=>v=.int .i64 (s.waits t)∧w'=w:=by
 obtain ⟨own,cb,hb,vs,m,c,hR,rfl⟩:=h
 obtain ⟨c0,c1,c2,c3⟩:=hR.cell
 refine Ec86 rfl ?_
 refine w_rs (s_end rfl (n_all ?_))
 by_cases ht:0≤t∧t<s.n
 ·obtain ⟨tn,rfl⟩:=Int.eq_ofNat_of_zero_le ht.1
  have htn:tn<s.n:=by omega
  refine w_seq (w_rs (s_call rfl rfl rfl (in_yes c0 ht.1 ht.2) ?_))
  rintro v w' ⟨rfl,rfl⟩
  refine ⟨trivial,s_end rfl (n_all ?_)⟩
  refine w_false rfl (w_skip (n_pick [0,1] rfl ?_))
  obtain ⟨v,F,hv,hvc,hS,hF⟩:=hR.rowAt htn
  obtain ⟨a,cc,rfl⟩:=hS.form
  refine w_rs (s_ld rfl rfl rfl c2 (s_idx rfl rfl rfl rfl (by omega) (by omega) (s_ld rfl rfl rfl (by simpa using hvc) (s_end rfl (n_all ?_)))))
  exact w_ret (RQ.one (t:=4) rfl (.inl rfl) rfl ⟨by simp [Mail.waits,ht],rfl⟩)
 ·refine w_seq (w_rs (s_call rfl rfl rfl (in_no c0 ht) ?_))
  rintro v w' ⟨rfl,rfl⟩
  refine ⟨trivial,s_end rfl (n_all ?_)⟩
  refine w_true rfl (w_rs (s_end rfl (n_all ?_)))
  exact w_ret (RQ.one (t:=4) rfl (.inl rfl) rfl ⟨by simp [Mail.waits,ht],rfl⟩)
theorem Post_no {w:World} {p:Nat} {s:Mail} {G:Nat→Prop} (h:MailIs w p s G) (f t a:Int) (hno:¬ ((0≤f∧f<s.n)∧(0≤t∧t<s.n)∧f≠t)) :
  Does Tryz.prog 153 #[.pointer (some ⟨p,0,none⟩),.int .i64 f,.int .i64 t,.int .i64 a] w fun v w'=>v=.int .i64 1∧w'=w:=by
 obtain ⟨own,cb,hb,vs,m,c,hR,rfl⟩:=h
 obtain ⟨c0,c1,c2,c3⟩:=hR.cell
 refine Ec85 rfl ?_
 refine w_rs (s_end rfl (n_all ?_))
 refine w_seq (w_block (w_rs (s_end rfl (n_all ?_))))
 refine w_false rfl ?_
 by_cases hf:0≤f∧f<s.n
 ·refine w_rs (s_call rfl rfl rfl (in_yes c0 hf.1 hf.2) ?_)
  rintro v w' ⟨rfl,rfl⟩
  refine ⟨trivial,?_⟩
  by_cases ht:0≤t∧t<s.n
  ·refine s_call rfl rfl rfl (in_yes c0 ht.1 ht.2) ?_
   rintro v w'' ⟨rfl,rfl⟩
   have hft:f=t:=Classical.byContradiction fun e=>hno ⟨hf,ht,e⟩
   refine ⟨trivial,s_end rfl (n_all ?_)⟩
   refine w_if rfl (fun _=>?_) (fun e=>by simp [hft] at e)
   refine w_rs (s_end rfl (n_all ?_))
   exact w_ret (RQ.one (t:=8) rfl (.inl rfl) rfl ⟨rfl,rfl⟩)
  ·refine s_call rfl rfl rfl (in_no c0 ht) ?_
   rintro v w'' ⟨rfl,rfl⟩
   refine ⟨trivial,s_end rfl (n_all ?_)⟩
   refine w_true rfl (w_rs (s_end rfl (n_all ?_)))
   exact w_ret (RQ.one (t:=8) rfl (.inl rfl) rfl ⟨rfl,rfl⟩)
 ·refine w_rs (s_call rfl rfl rfl (in_no c0 hf) ?_)
  rintro v w' ⟨rfl,rfl⟩
  refine ⟨trivial,s_end rfl (n_all ?_)⟩
  refine w_true rfl (w_rs (s_end rfl (n_all ?_)))
  exact w_ret (RQ.one (t:=8) rfl (.inl rfl) rfl ⟨rfl,rfl⟩)
theorem Post_ok {w:World} {p:Nat} {s:Mail} {G:Nat→Prop} (h:MailIs w p s G) (hsm:s.Small) (f t a:Int) (hf:0≤f∧f<s.n) (ht:0≤t∧t<s.n) (hft:f≠t) :
  Does Tryz.prog 153 #[.pointer (some ⟨p,0,none⟩),.int .i64 f,.int .i64 t,.int .i64 a] w fun v w'=>v=.int .i64 0∧∃ G',MailIs w' p (s.post f t a) G'∧Grow G G' w w':=by
 obtain ⟨own,cb,hb,vs,m,c,hR,rfl⟩:=h
 obtain ⟨c0,c1,c2,c3⟩:=hR.cell
 obtain ⟨fn,rfl⟩:=Int.eq_ofNat_of_zero_le hf.1
 obtain ⟨tn,rfl⟩:=Int.eq_ofNat_of_zero_le ht.1
 have hlen:=hsm.2 fn tn (by omega) (by omega)
 refine Ec85 rfl ?_
 refine w_rs (s_end rfl (n_all ?_))
 refine w_seq (w_block (w_rs (s_end rfl (n_all ?_))))
 refine w_false rfl ?_
 refine w_rs (s_call rfl rfl rfl (in_yes c0 hf.1 hf.2) ?_)
 rintro v w' ⟨rfl,hw⟩
 subst hw
 refine ⟨trivial,s_call rfl rfl rfl (in_yes c0 ht.1 ht.2) ?_⟩
 rintro v w'' ⟨rfl,hw⟩
 subst hw
 refine ⟨trivial,s_end rfl (n_all ?_)⟩
 refine w_if rfl (fun e=>absurd (by simpa using e) hft) (fun _=>?_)
 refine w_skip (n_pick [0,1,2,3] rfl ?_)
 -- the way
 refine w_rs (s_new rfl rfl trivial ?_)
 have hf1:=Fr.alloc (fun _=>False) w'' (.cells ([.int .i64 0,.int .i64 0]:List Value).toArray 193)
 have hB1:=Blk.new w'' [.int .i64 0,.int .i64 0] 193
 generalize w''.alloc (.cells ([.int .i64 0,.int .i64 0]:List Value).toArray 193)=w1 at hf1 hB1
 refine s_stn (vs:=[.int .i64 fn,.int .i64 tn]) rfl rfl rfl rfl rfl (by intro u hu; simp at hu; rcases hu with rfl | rfl <;> rfl) (fun i hi=>by rw [add_none]; exact ⟨hB1.some (by simpa using hi),hB1.frozen _⟩) trivial ?_
 have hf2:=putCells_fr (p:=⟨w''.heap.size,0,none⟩) [.int .i64 fn,.int .i64 tn] 0 w1
 have hB2:=putCells_blk (o:=0) [.int .i64 fn,.int .i64 tn] 0 w1 _ hB1 (by simp)
 generalize putCells w1 ⟨w''.heap.size,0,none⟩ 0 [.int .i64 fn,.int .i64 tn]=w2 at hf2 hB2
 have hB2:Blk w2 w''.heap.size [.int .i64 fn,.int .i64 tn]:=hB2
 have hnew:own w''.heap.size=none:=by
  cases hq:own w''.heap.size with
  | none=>rfl
  | some x=>have:=hR.small w''.heap.size (by rw [hq]; simp); omega
 have hf12:Fr (fun _=>False) w'' w2:=hf1.trans hf2 fun b hb e=>by have e':b=w''.heap.size:=e; omega
 have hR2:=hR.fr hf12 fun _ _ hg=>hg
 have hs2:w''.heap.size<w2.heap.size:=hB2.lt
 refine s_end rfl (n_pick [0,3,9] rfl ?_)
 clear c0 c1 c2 c3
 obtain ⟨c0,c1,c2,c3⟩:=hR2.cell
 -- one more is held
 refine w_rs (s_ld rfl rfl rfl c3 (s_ldn (vs:=[.int .i64 fn,.int .i64 tn]) rfl rfl rfl rfl hB2.pair ?_))
 refine s_bs1 rfl rfl rfl rfl ?_ ?_
 ·have hf:=Fr.alloc (fun _=>False) w2 (.cells (Value.int .i64 a).cells 3)
  exact ⟨ldn_keep rfl fun i _=>by rw [add_none]; exact hf.cell hB2.lt (fun x=>x),ld_keep rfl (hf.cell hR2.blk.lt fun x=>x),trivial⟩
 have hf3:=Fr.alloc (fun _=>False) w2 (.cells (Value.int .i64 a).cells 3)
 have hB3:Blk (w2.alloc (.cells (Value.int .i64 a).cells 3)) w2.heap.size [.int .i64 a]:=Blk.new w2 [.int .i64 a] _
 generalize w2.alloc (.cells (Value.int .i64 a).cells 3)=w3 at hf3 hB3
 have hR3:=hR2.fr hf3 fun _ _ hg=>hg
 refine s_rawE rfl rfl (mapEntry_W (k:=((fn:Int),(tn:Int))) Tryz.underlying189 way_law zero_ints rfl rfl hR3.map (fun w4 hM4 hf4 hz4=>⟨trivial,?_⟩))
 obtain ⟨Fe,hSe,hFe⟩:=hR3.entAt ((fn:Int),(tn:Int))
 rw [← ment_val (c:=c)] at hSe
 have hwf:=hR3.wf.ent (k:=((fn:Int),(tn:Int))) (.slice none 0 0)
 have nhb:∀ b∈Fe,b≠hb:=fun b hb' e=>by have:=hFe b hb'; rw [e,hR.oh] at this; cases this
 have hSe4:=hSe.fr hf4 nhb
 have hhb:hb<w''.heap.size:=hR.small hb (by rw [hR.oh]; simp)
 have hB4:Blk w4 w2.heap.size [.int .i64 a]:=hf4.blk hB3 (by intro e; have:w2.heap.size=hb:=e; omega)
 have hsrc:Rd w4 1 (.slice (some ⟨w2.heap.size,0,none⟩) 1 1) 1 (ints [a]):=⟨rfl,ints_one _,.inr ⟨_,0,1,_,rfl,hB4,by simp,rfl⟩⟩
 refine s_rawE rfl rfl (append_W ints_elem ⟨_,Tryz.underlying36⟩ rfl rfl hSe4 hsrc (by omega) (by omega) (fun v' w5 F' hS5 hf5 hF'=>⟨trivial,?_⟩))
 obtain ⟨i,hi⟩:=List.getElem?_of_mem hwf.2.1
 have hM5:=hM4.fr hf5 (fun e=>nhb hb e rfl)
 refine s_rawE rfl rfl (entryStore_W rfl rfl rfl hM5 hwf.1 hi (fun w6 hM6 hf6 hz6=>⟨trivial,?_⟩))
 rw [hwf.2.2] at hM6
 have hsz3:w2.heap.size≤w3.heap.size:=hf3.size
 have hS6:Sl w6 1 v' (s.held ((fn:Int),(tn:Int))++[a]).length (ints (s.held ((fn:Int),(tn:Int))++[a])) F':=by
  have:=hS5.fr hf6 (fun b hb' e=>by
   have e':b=hb:=e
   rcases hF' b hb' with h1 | h1
   ·exact nhb b h1 e'
   ·omega)
  rw [ints_append,List.length_append]; exact this
 have hf36:Fr (fun b=>b=hb∨b∈Fe) w3 w6:=((hf4.mono fun b _ h=>.inl h).trans hf5 fun b _ h=>.inr h).trans hf6 fun b _ h=>.inl h
 have hR6:=hR3.setEnt hf36 hM6 hS6 hFe (fun b hb'=>(hF' b hb').imp id fun h1=>by omega)
 have hG6:Grow (fun b=>own b≠none) (fun b=>(if b∈F' then some (4,(fn:Int),(tn:Int)) else own b)≠none) w'' w6:=by
  refine ⟨((hf12.mono (G:=fun b=>own b≠none) fun _ _ hx=>hx.elim).trans hf3 fun b _ hx=>hx.elim).trans hf36 fun b _ hx=>?_,fun b hb'=>?_⟩
  ·rcases hx with e | e
   ·rw [e,hR.oh]; simp
   ·rw [hFe b e]; simp
  ·by_cases e:b∈F'
   ·rcases hF' b e with h1 | h1
    ·left; rw [hFe b h1]; simp
    ·right; omega
   ·left; rwa [if_neg e] at hb'
 have hR6':MailR w6 p (s.put fn tn a) (fun b=>if b∈F' then some (4,(fn:Int),(tn:Int)) else own b) cb hb vs _ _:=hR6
 clear hR6
 have hnew6:w''.heap.size∉F':=fun e=>by
  rcases hF' _ e with h1 | h1
  ·have:=hFe _ h1; rw [hnew] at this; cases this
  ·omega
 have hB6:Blk w6 w''.heap.size [.int .i64 fn,.int .i64 tn]:=by
  refine hf36.blk (hf3.blk hB2 fun x=>x) fun e=>?_
  rcases e with e | e
  ·omega
  ·have:=hFe _ e; rw [hnew] at this; cases this
 refine s_end rfl (n_pick [0,9] rfl ?_)
 clear c0 c1 c2 c3
 obtain ⟨c0,c1,c2,c3⟩:=hR6'.cell
 obtain ⟨Fk,hSk,_⟩:=hR6'.entAt ((fn:Int),(tn:Int))
 refine w_seq (w_seq (w_reg (s_ld rfl rfl rfl c3 (s_ldn (vs:=[.int .i64 fn,.int .i64 tn]) rfl rfl rfl rfl hB6.pair (s_raw rfl rfl (lookup_Y (k:=((fn:Int),(tn:Int))) Tryz.underlying189 way_law zero_ints rfl rfl hR6'.map rfl) ?_)))))
 generalize ((mfind _ ((fn:Int),(tn:Int))).map (·.2.1)).getD (.slice none 0 0)=lv at hSk
 obtain ⟨la,lc,rfl⟩:=hSk.form
 refine s_ld rfl rfl rfl c1 (s_end rfl (n_all ?_))
 have hput:((s.put fn tn a).held ((fn:Int),(tn:Int))).length=(s.held ((fn:Int),(tn:Int))).length+1:=by
  simp [Mail.put,upd_same]
 refine w_if rfl (fun hge=>?_) (fun hlt=>?_)
 ·have hge':s.bt≤((s.put fn tn a).held ((fn:Int),(tn:Int))).length:=by
   have:=of_decide_eq_true hge
   exact Int.ofNat_le.1 this
  have hrow:(s.put fn tn a).row tn=s.row tn:=rfl
  refine w_reg (s_ldn (vs:=[.int .i64 fn,.int .i64 tn]) rfl rfl rfl rfl hB6.pair (s_call rfl rfl rfl (pass_ok hR6' ht.1 ht.2 (by rw [Int.toNat_natCast,hrow,hput]; omega)) ?_))
  rintro v w7 ⟨rfl,G',hI,hG⟩
  refine ⟨trivial,s_end rfl (n_all (w_rs (s_end rfl (n_all ?_))))⟩
  refine w_ret (RQ.one (t:=8) rfl (.inl rfl) rfl ⟨rfl,G',?_,hG6.trans hG⟩)
  unfold Mail.post
  rw [if_pos hge']; exact hI
 ·have hlt':¬ s.bt≤((s.put fn tn a).held ((fn:Int),(tn:Int))).length:=by
   have:=of_decide_eq_false hlt
   exact fun h=>this (Int.ofNat_le.2 h)
  refine w_skip (n_all (w_rs (s_end rfl (n_all ?_))))
  refine w_ret (RQ.one (t:=8) rfl (.inl rfl) rfl ⟨rfl,_,?_,hG6⟩)
  unfold Mail.post
  rw [if_neg hlt']; exact ⟨_,cb,hb,vs,_,_,hR6',rfl⟩
theorem Next_none {w:World} {p:Nat} {s:Mail} {G:Nat→Prop} (h:MailIs w p s G) (t:Int) (hz:s.waits t=0) :
  Does Tryz.prog 126 #[.pointer (some ⟨p,0,none⟩),.int .i64 t] w fun v w'=>v=.tuple #[.int .i64 0,.bool false]∧w'=w:=by
 refine Ec84 rfl ?_
 refine w_rs (s_end rfl (n_all ?_))
 refine w_seq (w_rs (s_call rfl rfl rfl (Waits_ok h t) ?_))
 rintro v w' ⟨rfl,hw⟩
 subst hw
 rw [hz]
 refine ⟨trivial,s_end rfl (n_all ?_)⟩
 refine w_if rfl (fun _=>?_) (fun e=>by simp at e)
 refine w_rs (s_end rfl (n_all ?_))
 exact w_ret (RQ.two (t:=4) (u:=5) rfl (.inl rfl) rfl rfl ⟨rfl,rfl⟩)
theorem Next_ok {w:World} {p:Nat} {s:Mail} {G:Nat→Prop} (h:MailIs w p s G) (t:Int) {x:Int} {r:List Int} (ht:0≤t∧t<s.n) (hx:s.row t.toNat=x::r) :
  Does Tryz.prog 126 #[.pointer (some ⟨p,0,none⟩),.int .i64 t] w fun v w'=>v=.tuple #[.int .i64 x,.bool true]∧∃ G',MailIs w' p (s.next t) G'∧Grow G G' w w':=by
 obtain ⟨tn,rfl⟩:=Int.eq_ofNat_of_zero_le ht.1
 have htn:tn<s.n:=by omega
 simp only [Int.toNat_natCast] at hx
 have hw1:s.waits (tn:Int)=r.length+1:=by simp [Mail.waits,htn,hx]
 refine Ec84 rfl ?_
 refine w_rs (s_end rfl (n_all ?_))
 refine w_seq (w_rs (s_call rfl rfl rfl (Waits_ok h (tn:Int)) ?_))
 rintro v w' ⟨rfl,hw⟩
 subst hw
 refine ⟨trivial,s_end rfl (n_all ?_)⟩
 refine w_if rfl (fun e=>by rw [hw1] at e; simp at e; omega) (fun _=>?_)
 refine w_skip (n_pick [0,1] rfl ?_)
 obtain ⟨own,cb,hb,vs,m,c,hR,rfl⟩:=h
 obtain ⟨c0,c1,c2,c3⟩:=hR.cell
 obtain ⟨v,F,hv,hvc,hS,hF⟩:=hR.rowAt htn
 have hS0:=hS
 rw [hx] at hS
 rcases hS.2.2 with ⟨_,h0,_⟩ | ⟨b,o,cc,cs,rfl,rfl,hB,hlen,hn,hcells⟩
 ·simp at h0
 have hcell0:w'.cell? ⟨b,o,none⟩=some (.int .i64 x):=by
  rw [hB.cellEq]
  have:=congrArg (fun l=>l[0]?) hcells
  simpa [ints,List.getElem?_take] using this
 refine w_rs (s_ld rfl rfl rfl c2 (s_idx rfl rfl rfl rfl (by omega) (by omega) (s_ld rfl rfl rfl (by simpa using hvc) (s_idx rfl rfl rfl rfl (by omega) (by simp) (s_ld rfl rfl rfl (by simpa using hcell0) (s_end rfl (n_pick [0,1,6] rfl ?_)))))))
 simp only [List.length_cons] at hn hlen
 have hcc:1≤cc:=by omega
 -- what is left of the row
 let v':Value:=.slice (if cc=1 then some ⟨b,o,none⟩ else (some (⟨b,o,none⟩:Addr)).map (·.add (1*1))) ((r.length+1)-1) (cc-1)
 have hS':Sl w' 1 v' r.length (ints r) [b]:=by
  refine ⟨by simp [ints_length],ints_one r,?_⟩
  by_cases e:cc=1
  ·refine .inr ⟨b,o,cc-1,cs,?_,rfl,hB,by omega,by omega,?_⟩
   ·show Value.slice (if cc=1 then _ else _) _ _=_
    rw [if_pos e]; simp
   ·have:r=[]:=by cases r with
     | nil=>rfl
     | cons y r'=>simp at hn; omega
    subst this; simp [ints]
  ·refine .inr ⟨b,o+1,cc-1,cs,?_,rfl,hB,by omega,by omega,?_⟩
   ·show Value.slice (if cc=1 then _ else _) _ _=_
    rw [if_neg e]
    simp [add_none]
   ·have:=congrArg List.tail hcells
    simp only [ints,List.map_cons,List.tail_cons,List.length_cons,Nat.mul_one] at this ⊢
    rw [← this]
    rw [← List.drop_one,List.drop_take,List.drop_drop]
    rfl
 refine w_rs (s_ld rfl rfl rfl c2 (s_ld rfl rfl rfl c2 (s_idx rfl rfl rfl rfl (by omega) (by omega) (s_ld rfl rfl rfl (by simpa using hvc) (s_slc (v:=v') (lo':=1) (hi':=r.length+1) rfl rfl rfl ⟨.i64,1,rfl,by omega,rfl⟩ rfl (by omega) (by omega) rfl ?_)))))
 have htv:tn<vs.length:=by rw [hR.vlen]; exact htn
 refine s_idx rfl rfl rfl rfl (by omega) (by omega) (s_st rfl rfl rfl rfl hS'.one (hR.cblk.some (by simpa using htv)) (hR.cblk.frozen _) trivial (s_end rfl (n_pick [6] rfl ?_)))
 refine w_rs (s_end rfl (n_all ?_))
 have e1:(⟨cb,0+(Int.toNat (tn:Int))*1,none⟩:Addr)=⟨cb,tn,none⟩:=by simp
 rw [e1]
 have hfin:=hR.setRow htn hS' (Fr.refl (·∈[b]) w') hF (fun b hb=>.inl hb)
 refine w_ret (RQ.two (t:=4) (u:=5) rfl (.inl rfl) rfl rfl ⟨rfl,fun b'=>(if b'∈[b] then some (3,(tn:Int),0) else own b')≠none,?_,?_,?_⟩)
 ·have e2:s.next (tn:Int)={ s with come:=s.come.set tn r }:=by simp [Mail.next,hx]
  rw [e2]; exact ⟨_,cb,hb,_,_,c,hfin,rfl⟩
 ·exact (Fr.setCell w' ⟨cb,tn,none⟩ v').mono fun b' _ e=>by rw [show b'=cb from e,hR.oc]; simp
 ·intro b' hb'
  by_cases e:b'∈[b]
  ·left; rw [hF b' e]; simp
  ·left; rwa [if_neg e] at hb'
theorem New_ok (w:World) (threads batch:Int):Does Tryz.prog 78 #[.int .i64 threads,.int .i64 batch] w fun v w' =>
  ∃ p G,v=.pointer (some ⟨p,0,none⟩)∧MailIs w' p (Mail.new threads batch) G∧Fr (fun _=>False) w w'∧∀ b,G b→w.heap.size≤b:=by
 obtain ⟨n,hn⟩:∃ n:Nat,min (max threads 0) 64=n:=⟨_,(Int.toNat_of_nonneg (by omega)).symm⟩
 obtain ⟨bt,hbt⟩:∃ n:Nat,min (max batch 1) 64=n:=⟨_,(Int.toNat_of_nonneg (by omega)).symm⟩
 have hs:Mail.new threads batch={ n:=n,bt:=bt,come:=List.replicate n [],held:=fun _=>[] }:=by
  simp [Mail.new,hn,hbt]
 rw [hs]
 refine Ec89 rfl ?_
 refine w_rs (s_end rfl (n_all ?_))
 refine w_rs (s_end rfl (n_pick [0,1] rfl ?_))
 rw [show imm false (imm true threads 0) 64=(n:Int) from hn]
 refine w_rs ?_
 refine s_rawE rfl rfl (makeSlice_W (z:=.slice none 0 0) (sz:=1) (bytes:=24) Tryz.underlying72 ⟨_,rfl,by kernel_rfl,by kernel_rfl,by kernel_rfl⟩ rfl rfl rfl (by omega) (by omega) rfl rfl (fun w1 v1 hS1 hf1 hz1 hv1 hB1=>⟨trivial,?_⟩))
 subst hv1
 refine s_rawE rfl rfl (makeMap_W pairV (fun w2 hM2 hf2 hz2=>⟨trivial,?_⟩))
 refine s_box rfl rfl rfl trivial ?_
 rw [show imm false (imm true batch 1) 64=(bt:Int) from hbt]
 have hB2:=hf2.blk hB1 (fun x=>x)
 generalize hw3:w2.alloc (.cells (Value.agg #[.int .i64 n,.int .i64 bt,.slice (some ⟨w.heap.size,0,none⟩) n n,.map (some w1.heap.size)]).cells 191)=w3
 have hf3:Fr (fun _=>False) w2 w3:=by rw [← hw3]; exact Fr.alloc _ w2 _
 have hB3:Blk w3 w2.heap.size [.int .i64 n,.int .i64 bt,.slice (some ⟨w.heap.size,0,none⟩) n n,.map (some w1.heap.size)]:=by rw [← hw3]; exact Blk.new w2 _ _
 refine s_end rfl (n_all ?_)
 refine w_ret (RQ.one (t:=4) rfl (.inl rfl) rfl ⟨w2.heap.size,fun b=>(if b=w.heap.size then some ((1,0,0):Nat × Int × Int) else if b=w1.heap.size then some (2,0,0) else if b=w2.heap.size then some (0,0,0) else none)≠none,rfl,⟨fun b=>if b=w.heap.size then some ((1,0,0):Nat × Int × Int) else if b=w1.heap.size then some (2,0,0) else if b=w2.heap.size then some (0,0,0) else none,w.heap.size,w1.heap.size,List.replicate n (.slice none 0 0),[],0,?_,rfl⟩,?_,?_⟩)
 ·refine ⟨fun b hb=>?_,?_,?_,?_,hB3,hf3.blk hB2 (fun x=>x),by simp,by simp,fun t v hv=>?_,hM2.fr hf3 (fun x=>x),⟨by simp,by simp,fun x hx=>(by cases hx)⟩,fun e he=>(by cases he),fun _ _=>rfl⟩
  ·have:=hB3.lt
   by_cases h1:b=w.heap.size
   ·omega
   ·rw [if_neg h1] at hb
    by_cases h2:b=w1.heap.size
    ·omega
    ·rw [if_neg h2] at hb
     by_cases h3:b=w2.heap.size
     ·omega
     ·rw [if_neg h3] at hb; exact absurd rfl hb
  ·rw [if_neg (by omega),if_neg (by omega),if_pos rfl]
  ·rw [if_pos rfl]
  ·rw [if_neg (by omega),if_pos rfl]
  ·have ht:t<n:=by
    have:=(List.getElem?_eq_some_iff.1 hv).1
    simpa using this
   have hv':v=.slice none 0 0:=by
    rw [List.getElem?_replicate,if_pos ht] at hv
    cases hv; rfl
   subst hv'
   refine ⟨[],?_,fun b hb=>by cases hb⟩
   have hrow:Mail.row { n:=n,bt:=bt,come:=List.replicate n [],held:=fun _=>[] } t=[]:=by simp [Mail.row,ht]
   rw [hrow]
   exact Sl.nil w3 1
 ·exact (hf1.trans hf2 fun _ _ x=>x).trans hf3 fun _ _ x=>x
 ·intro b hb
  by_cases h1:b=w.heap.size
  ·omega
  ·rw [if_neg h1] at hb
   by_cases h2:b=w1.heap.size
   ·omega
   ·rw [if_neg h2] at hb
    by_cases h3:b=w2.heap.size
    ·omega
    ·rw [if_neg h3] at hb; exact absurd rfl hb
end Go.Proofs.YtblibdfcnplfhaaGreat
end
section
namespace Go.Proofs.YtblibdfcnplfhaaGreat
open Go Go.Tum Go.Tum.Remote
def MA (s:Mail) (G:Nat→Prop):Nat→World→Prop:=fun p w=>MailIs w p s G
theorem MA_ok (s:Mail) (G:Nat→Prop):ObjOk (MA s G) G:=⟨fun _ _ h=>MailIs.small h,fun _ _ _ _ h hf hd=>MailIs.fr h hf fun b h1 h2=>hd b h2 h1⟩
def MB (s:Mail) (G:Nat→Prop):LB:=.abs (MA s G) G
abbrev op:Value:=.pointer (some ⟨0,0,none⟩)
theorem mNew_tr (threads batch:Int):Tr Tryz.prog 78 [.int .i64 threads,.int .i64 batch] [] (fun v K=>v=op∧∃ G,K=[MB (Mail.new threads batch) G]) :=
 Tr.newObj (A':=MA (Mail.new threads batch)) (by kernel_rfl) rfl (MA_ok _) fun w=>New_ok w threads batch
theorem mPost_ok (s:Mail) (hs:s.Small) (G:Nat→Prop) (f t a:Int) (hf:0≤f∧f<s.n) (ht:0≤t∧t<s.n) (hft:f≠t):Tr Tryz.prog 153 [op,.int .i64 f,.int .i64 t,.int .i64 a] [MB s G] (fun v K=>v=.int .i64 0∧∃ G',K=[MB (s.post f t a) G']) :=
 Tr.ofObj (A':=MA (s.post f t a)) (by kernel_rfl) rfl rfl (MA_ok _) fun w p h=>Post_ok h hs f t a hf ht hft
theorem mPost_no (s:Mail) (G:Nat→Prop) (f t a:Int) (hno:¬ ((0≤f∧f<s.n)∧(0≤t∧t<s.n)∧f≠t)):Tr Tryz.prog 153 [op,.int .i64 f,.int .i64 t,.int .i64 a] [MB s G] (fun v K=>v=.int .i64 1∧K=[MB s G]) :=
 Tr.ofObjP (by kernel_rfl) rfl rfl fun w p h=>Post_no h f t a hno
theorem mNext_none (s:Mail) (G:Nat→Prop) (t:Int) (hz:s.waits t=0):Tr Tryz.prog 126 [op,.int .i64 t] [MB s G] (fun v K=>v=.tuple ⟨[.int .i64 0,.bool false]⟩∧K=[MB s G]) :=
 Tr.ofObjP (by kernel_rfl) rfl rfl fun w p h=>Next_none h t hz
theorem mNext_ok (s:Mail) (G:Nat→Prop) (t x:Int) {r:List Int} (ht:0≤t∧t<s.n) (hx:s.row t.toNat=x::r):Tr Tryz.prog 126 [op,.int .i64 t] [MB s G] (fun v K=>v=.tuple ⟨[.int .i64 x,.bool true]⟩∧∃ G',K=[MB (s.next t) G']) :=
 Tr.ofObj (A':=MA (s.next t)) (by kernel_rfl) rfl rfl (MA_ok _) fun w p h=>Next_ok h t ht hx
end Go.Proofs.YtblibdfcnplfhaaGreat
end
